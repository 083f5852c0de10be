/- A part of the proof that the evaluator in GnC, and the driver in GnZ, answer as the model does; no conditions. -/
import Derived.Test.YtfmoohdaimlggaaGreatDoorGnWb
namespace Go.Eng
open Go.RowKit
variable {P:Program} {w0:World} {H Hb H0:Hp} {φ φ0 φ':Ph} {w:World} {N k0:Nat} {T:Fr} {a:Act} {r:Rec} {lab:LabW} {Gn:Gens} {fin:BR} {top:Code} {L:RL} {ro:Option Nat}
theorem zml{v v':AV}{H':Hp}{val:Value}(h:zhp v H=some (v',H'))(hr:HR P w0 H φ w)(hv:VR φ v val):∃ φ',HR P w0 H' φ' w∧EX H φ H' φ'∧φ'.f=φ.f∧FV φ'.fz v' val:=by
  unfold zhp at h
  cases hc:zbG v
  · rw[hc,zai] at h
    obtain⟨h10,h⟩:=zas h
    obtain⟨hq,h⟩:=zas h
    obtain⟨hk,h⟩:=zas h
    obtain⟨_,h⟩:=zas h
    obtain⟨hl,h⟩:=zas h
    obtain⟨_,h⟩:=zas h
    obtain⟨hcl,h⟩:=zas h
    cases h
    obtain⟨x,rfl,hx⟩:=hv.of_ptr (zaa.1 h10)
    have hk:=zaa.1 hk
    have hl:=zah.1 hl
    obtain⟨hbn,hown,o,ho,hB⟩:=hr.blk _ _ hx
    obtain⟨l,rest,t,rfl,h1,h2,_⟩:=hB.cells hk
    have hr1:=hr.kill (b:=v.p) hbn
    have hex1:=EX.kill hr hx hl (by omega)
    have hn:=hr.n
    have hdead:∀ b,φ b=some x→(H.lim≤b ∨ (hget (hset H v.p noB) b).kind=0)∧((hget (hset H v.p noB) b).kind=0 ∨ (hget (hset H v.p noB) b).kind=7):=by
      intro b hb
      have hb1:=(hr.blk _ _ hb).1
      rw[zaM (by omega) (by omega)]
      by_cases e:v.p=b
      · rw[if_pos e];exact⟨.inl (e ▸ hl),.inl rfl⟩
      · rw[if_neg e]
        have h0:(hget H b).kind=0:=by
          cases hz:decide ((hget H b).kind=0) with
          | true=>exact of_decide_eq_true hz
          | false=>exact absurd (hr.inj v.p b x hx hb (by omega) (of_decide_eq_false hz)) e
        exact⟨.inr h0,.inl h0⟩
    obtain⟨φ',k1,k2,k3,k4⟩:=hr1.addfz (x:=x) (C:=l++rest) (hown hl) ho hdead
    refine⟨φ',k1,hex1.trans k2,k4,?_⟩
    have hz:∀ y D,φ.fz y=some D→φ'.fz y=some D:=k2.keep.fz
    have hfz:=(zpi hcl h1).mono hz
    have e15:cellsOf (aggV (hget H v.p).cs)=(hget H v.p).cs:=rfl
    have hp:FZ φ'.fz ⟨26,0,0,0,0,[aggV (hget H v.p).cs]⟩ (.pointer (some ⟨x,0+0,none⟩)) :=
      .ptr 0 0 0 x 0 (aggV (hget H v.p).cs) (l++rest) l k3 (by rw[e15];exact hfz) rfl (by rw[List.drop_zero,List.take_left])
    rw[zaa.1 hq]
    exact fun ψ e=>.fptr _ _ _ _ _ _ (e ▸ hp)
  · rw[hc,zag] at h
    cases h
    exact⟨φ,hr,EX.refl _ _,rfl,fun ψ e=>zfq hc hv e⟩
theorem zqZ:∀ (l:List AV) {cs:List AV} {H H':Hp} {φ:Ph} {vals:List Value},zhq l H=some (cs,H')→HR P w0 H φ w→VRs φ l vals→∃ φ',HR P w0 H' φ' w∧EX H φ H' φ'∧φ'.f=φ.f∧FVs φ'.fz cs vals:=by
  intro l
  induction l with
  | nil =>
    intro cs H H' φ vals h hr hv
    have h':some (([]:List AV),H)=some (cs,H'):=h
    cases h';cases hv
    exact⟨φ,hr,EX.refl _ _,rfl,fun _ _=>.nil⟩
  | cons v l ih =>
    intro cs H H' φ vals h hr hv
    have h':om (zhp v H) none (fun x=>om (zhq l x.2) none fun y=>some (x.1::y.1,y.2))=some (cs,H'):=h
    obtain⟨⟨a1,H1⟩,h1,h'⟩:=za1 h'
    obtain⟨⟨a2,H2⟩,h2,h'⟩:=za1 h'
    cases h'
    cases hv with
    | cons g1 g2 =>
      obtain⟨φ1,k1,k2,k3,k4⟩:=zml h1 hr g1
      obtain⟨φ2,m1,m2,m3,m4⟩:=ih h2 k1 (g2.mono k2.keep)
      exact⟨φ2,m1,k2.trans m2,m3.trans k3,fun ψ e=>.cons ((k4.mono m2.keep.fz) ψ e) (m4 ψ e)⟩
structure CxOk(P:Program)(N:Nat)(lab:LabW)(k0:Nat)(Gn:Gens)(J:Nat→Jmp)(fin:BR)(Cx:List Nat→Code→(Nat→BR)→(Nat→List (Nat × BR))→Prop):Prop where
  seq0:∀ {rp x y k ks},Cx rp (.seq x y) k ks→Cx (0::rp) x (fun n=>atW P lab k0 (J n) (1::rp) (zbm P N lab k0 Gn (J n) fin (1::rp) y (k n) (ks n))) ks
  seq1:∀ {rp x y k ks},Cx rp (.seq x y) k ks→Cx (1::rp) y k ks
  cond0:∀ {rp c x y k ks},Cx rp (.cond c x y) k ks→Cx (0::rp) x k ks
  cond1:∀ {rp c x y k ks},Cx rp (.cond c x y) k ks→Cx (1::rp) y k ks
  block:∀ {rp i c k ks},Cx rp (.block i c) k ks→Cx (0::rp) c k (fun n=>(i,k n)::ks n)
  loop:∀ {rp c k ks},Cx rp (.loop c) k ks→Cx (0::rp) c (fun n=>zhX P lab k0 (J n) (0::rp)) ks
  scope:∀ {rp c k ks},Cx rp (.scope c) k ks→Cx (0::rp) c k ks
theorem zmm(hm:P.follows .mixedOrders=true)(hrec:zaU P r)(hL:AllOk L)(h5:∀ x ∈ L,x.tag=5){J:Nat→Jmp}{Cx:List Nat→Code→(Nat→BR)→(Nat→List (Nat × BR))→Prop}(hcx:CxOk P N lab k0 Gn J fin Cx)
    (HJ:∀ (q:List Nat) (c:Code) (k:Nat→BR) (ks:Nat→List (Nat × BR)),Cx q c k ks→∀ (m:Nat) (T:Fr) (H:Hp) (φ:Ph) (a:Act) (w:World),St P w0 N H0 φ0 T H φ a w→(∀ x ∈ (zhX P lab k0 (J m) q).run r T H,x ∈ L) →
      ∃ m',m=m'+1∧∃ T' H' φ',St P w0 N H0 φ0 T' H' φ' a w∧∀ x ∈ (zbm P N lab k0 Gn (J m') fin q c (k m') (ks m')).run r T' H',x ∈ L)
    (HF:∀ (rp:List Nat) (g:Operand) (ps:Array Tmp) (as body:Code) (k:Nat→BR) (ks:Nat→List (Nat × BR)),Cx rp (.rangeFunc g ps as body) k ks→∀ (n:Nat) (T:Fr) (H:Hp) (φ:Ph) (a:Act) (w:World),St P w0 N H0 φ0 T H φ a w →
      (∀ x ∈ (znR P lab k0 Gn (J n) rp g).run r T H,x ∈ L)→(Code.rangeFunc g ps as body).wpIn (fen ro) 0 P (QYY P w0 r N H0 φ0 L fin n k ks) a w)
    (c:Code):∀ (rp:List Nat) (k:Nat→BR) (ks:Nat→List (Nat × BR)),Cx rp c k ks →
    ∀ (n:Nat) (T:Fr) (H:Hp) (φ:Ph) (a:Act) (w:World),St P w0 N H0 φ0 T H φ a w→(∀ x ∈ (zbm P N lab k0 Gn (J n) fin rp c (k n) (ks n)).run r T H,x ∈ L) →
    c.wpIn (fen ro) 0 P (QYY P w0 r N H0 φ0 L fin n k ks) a w:=by
  induction c with
  | skip=>exact fun rp k ks hat n T H φ a w hs h=>wpIn_skip ⟨n,Nat.le_refl _,T,H,φ,hs,h⟩
  | label l=>exact fun rp k ks hat n T H φ a w hs h=>wpIn_label ⟨n,Nat.le_refl _,T,H,φ,hs,h⟩
  | ret=>exact fun rp k ks hat n T H φ a w hs h=>wpIn_ret ⟨n,Nat.le_refl _,T,H,φ,hs,h⟩
  | exit i=>exact fun rp k ks hat n T H φ a w hs h=>wpIn_exit ⟨n,Nat.le_refl _,T,H,φ,hs,h⟩
  | region id ops draw =>
    intro rp k ks hat n T H φ a w hs h
    cases draw with
    | false =>
      refine wpIn_mono ?_ (zkU h5 (Nat.le_refl n))
      refine wpIn_region ?_
      rw[List.range_eq_range']
      exact zyq hrec hL _ 0 T H φ a w (by omega) hs h
    | true=>exact wpIn_mono (zlm hm hrec hL hs h) (zkU h5 (Nat.le_refl n))
  | seq x y ihx ihy =>
    intro rp k ks hat n T H φ a w hs h
    refine wpIn_seq (wpIn_mono (ihx (0::rp) _ ks (hcx.seq0 hat) n T H φ a w hs h) ?_)
    intro e a' w' hq
    cases e with
    | normal =>
      obtain⟨m,hm1,T',H',φ',h1,h2⟩:=hq
      cases hl:lab (1::rp) with
      | none =>
        have e1:atW P lab k0 (J m) (1::rp) (zbm P N lab k0 Gn (J m) fin (1::rp) y (k m) (ks m))=zbm P N lab k0 Gn (J m) fin (1::rp) y (k m) (ks m):=by
          unfold atW;rw[hl];rfl
        have h2':∀ z ∈ (atW P lab k0 (J m) (1::rp) (zbm P N lab k0 Gn (J m) fin (1::rp) y (k m) (ks m))).run r T' H',z ∈ L:=h2
        rw[e1] at h2'
        exact wpIn_mono (ihy (1::rp) k ks (hcx.seq1 hat) m T' H' φ' a' w' h1 h2') (QYY.mono hm1)
      | some live =>
        have e1:atW P lab k0 (J m) (1::rp) (zbm P N lab k0 Gn (J m) fin (1::rp) y (k m) (ks m))=zhX P lab k0 (J m) (1::rp):=by
          unfold atW;rw[hl];rfl
        have h2':∀ z ∈ (atW P lab k0 (J m) (1::rp) (zbm P N lab k0 Gn (J m) fin (1::rp) y (k m) (ks m))).run r T' H',z ∈ L:=h2
        rw[e1] at h2'
        obtain⟨m',rfl,T2,H2,φ2,g1,g2⟩:=HJ _ _ _ _ (hcx.seq1 hat) _ _ _ _ _ _ h1 h2'
        exact wpIn_mono (ihy (1::rp) k ks (hcx.seq1 hat) m' T2 H2 φ2 a' w' g1 g2) (QYY.mono (by omega))
    | _=>exact hq
  | cond c x y ihx ihy =>
    intro rp k ks hat n T H φ a w hs h
    have h':∀ z ∈ bi (nbeq ((getO P c).run T).tag 8) (bi (nbeq ((getO P c).run T).p 1) ((zbm P N lab k0 Gn (J n) fin (0::rp) x (k n) (ks n)).run r (zcY c true T) H) ((zbm P N lab k0 Gn (J n) fin (1::rp) y (k n) (ks n)).run r (zcY c false T) H)) (zab 245),z ∈ L:=h
    cases h8:nbeq ((getO P c).run T).tag 8
    · rw[h8] at h';exact (zaq hL h').elim
    · rw[h8,zag] at h'
      have h8:=zaa.1 h8
      obtain⟨b,e,hp,_⟩:=(hs.tr.eval c).of_bool h8
      have hks:=zeQ (b:=b) hs h8 hp
      rw[hp] at h'
      cases b with
      | true=>exact wpIn_cond_true e (ihx (0::rp) k ks (hcx.cond0 hat) n _ H φ a w hks h')
      | false=>exact wpIn_cond_false e (ihy (1::rp) k ks (hcx.cond1 hat) n _ H φ a w hks h')
  | block i c ih =>
    intro rp k ks hat n T H φ a w hs h
    refine wpIn_block (wpIn_mono (ih (0::rp) k (fun n=>(i,k n)::ks n) (hcx.block hat) n T H φ a w hs h) ?_)
    intro e a' w' hq
    cases e with
    | normal=>exact hq
    | exit j =>
      obtain⟨m,hm1,T',H',φ',h1,h2⟩:=hq
      have h2':∀ z ∈ (bi (nbeq i j) (k m) (zeD j (ks m))).run r T' H',z ∈ L:=h2
      by_cases hji:j=i
      · simp only[Exit.inBlock,hji,if_true]
        rw[zaa.2 hji.symm,zag] at h2'
        exact⟨m,hm1,T',H',φ',h1,h2'⟩
      · simp only[Exit.inBlock,hji,if_false]
        rw[zam.2 (Ne.symm hji),zai] at h2'
        exact⟨m,hm1,T',H',φ',h1,h2'⟩
    | ret=>exact hq
    | goto l=>exact hq.elim
    | panic ch=>exact hq.elim
    | outgrown=>exact hq.elim
  | loop c ih =>
    intro rp k ks hat n T H φ a w hs h
    let Jv:Nat→Act→World→Prop:=fun m a w=>m≤n∧∃ T H φ,St P w0 N H0 φ0 T H φ a w∧∀ x ∈ (zhX P lab k0 (J m) (0::rp)).run r T H,x ∈ L
    let μ:Act→World→Nat:=fun a w=>(Classical.propDecidable (∃ n,Jv n a w)).byCases (fun h=>Classical.choose (least h)) (fun _=>0)
    have hμ:∀ a w,(∃ n,Jv n a w)→Jv (μ a w) a w∧∀ m,Jv m a w→μ a w≤m:=by
      intro a w he
      have:μ a w=Classical.choose (least he):=by
        show (Classical.propDecidable (∃ n,Jv n a w)).byCases _ _=_
        cases Classical.propDecidable (∃ n,Jv n a w) with
        | isTrue h=>rfl
        | isFalse h=>exact absurd he h
      rw[this]
      exact Classical.choose_spec (least he)
    refine wpIn_loop (fun a w=>∃ n,Jv n a w) μ ⟨n,Nat.le_refl _,T,H,φ,hs,h⟩ ?_
    intro a w he
    obtain⟨hJ,_⟩:=hμ a w he
    generalize hme:μ a w=m at hJ
    obtain⟨hmn,T,H,φ,hs,hr⟩:=hJ
    obtain⟨m',rfl,T',H',φ',g1,g2⟩:=HJ _ _ _ _ (hcx.loop hat) _ _ _ _ _ _ hs hr
    refine wpIn_mono (ih (0::rp) _ ks (hcx.loop hat) m' T' H' φ' a w g1 g2) ?_
    intro e a' w' hq
    cases e with
    | normal =>
      obtain⟨m2,hm2,T2,H2,φ2,k1,k2⟩:=hq
      have hJ':Jv m2 a' w':=⟨by omega,T2,H2,φ2,k1,k2⟩
      exact⟨⟨m2,hJ'⟩,Nat.lt_of_le_of_lt ((hμ a' w' ⟨m2,hJ'⟩).2 m2 hJ') (by omega)⟩
    | exit i=>exact OnY.mono (by omega) hq
    | ret=>exact OnY.mono (by omega) hq
    | goto l=>exact hq.elim
    | panic ch=>exact hq.elim
    | outgrown=>exact hq.elim
  | scope c ih =>
    intro rp k ks hat n T H φ a w hs h
    refine zdx (wpIn_mono (ih (0::rp) k ks (hcx.scope hat) n T H φ a w hs h) ?_)
    intro e a' w' hq
    cases e with
    | goto l=>exact hq.elim
    | _=>exact hq
  | rangeFunc g ps as body=>exact fun rp k ks hat n T H φ a w hs h=>HF rp g ps as body k ks hat n T H φ a w hs h
  | _=>intro rp k ks hat n T H φ a w hs h;exact (zaq hL h).elim
theorem zjz(hm:P.follows .mixedOrders=true)(hrec:zaU P r)(hL:AllOk L)(h5:∀ x ∈ L,x.tag=5)(c:Code)(rp:List Nat)(k:BR)(ks:List (Nat × BR))(hs:St P w0 N H0 φ0 T H φ a w)
    (h:∀ x ∈ (zbm P N (fun _=>none) k0 (fun _=>none) jmp0 fin rp c k ks).run r T H,x ∈ L):c.wpIn (fen ro) 0 P (QYY P w0 r N H0 φ0 L fin 0 (fun _=>k) (fun _=>ks)) a w:=by
  refine zmm (J:=fun _=>jmp0) (Cx:=fun _ _ _ _=>True) (lab:=fun _=>none) (k0:=k0) (Gn:=fun _=>none) hm hrec hL h5 ⟨fun _=>trivial,fun _=>trivial,fun _=>trivial,fun _=>trivial,fun _=>trivial,fun _=>trivial,fun _=>trivial⟩ ?_ ?_ c rp _ _ trivial 0 T H φ a w hs h
  · intro q c k ks _ m T H φ a w hs h
    exact (zaq hL (show ∀ x ∈ zab 240,x ∈ L from h)).elim
  · intro rp g ps as body k ks _ n T H φ a w hs h
    have h':∀ x ∈ newC H ⟨4,0,0,[]⟩ yldV (fun H' _=>(fun v:AV=>bi (nbeq v.tag 13) (bi (nbeq v.q 0) (zab 250) (zab 250)) (zab 250)) ((getO P g).run T)),x ∈ L:=h
    unfold newC at h'
    cases hn:nble H.n 32766
    · rw[hn] at h';exact (zaq hL h').elim
    rw[hn,zag] at h'
    simp only[] at h'
    cases h13:nbeq ((getO P g).run T).tag 13
    · rw[h13] at h';exact (zaq hL h').elim
    rw[h13,zag] at h'
    cases hq:nbeq ((getO P g).run T).q 0
    · rw[hq] at h';exact (zaq hL h').elim
    · rw[hq] at h';exact (zaq hL h').elim
end Go.Eng
namespace Go.Eng
open Go.RowKit
variable {P:Program} {w0:World} {H Hb H0:Hp} {φ φ0 φ':Ph} {w:World} {N k0:Nat} {T:Fr} {a:Act} {r:Rec} {lab:LabW} {Gn:Gens} {fin:BR} {top:Code} {L:RL}
theorem PlainOp.of_op(h:PlainOp φ)(e:φ'.op=φ.op):PlainOp φ':=fun n v hv=>h n v (by rw[← e];exact hv)
theorem TR.below{N:Nat}(h:TR P φ N T a):TR P φ N T a:=h
theorem St.below'{w':World}(hs:St P w0 N H0 φ0 T H φ a w)(hb:Below w.heap.size w w'):St P w0 N H0 φ0 T H φ a w':=⟨hs.tr,hs.hr.below' hb,hs.ex⟩
theorem TR.reop(hp:PlainOp φ){op:Nat→Value→Prop}(h:TR P φ N T a):TR P (φ.reop op) N T a:=by
  refine⟨h.size,fun t=>VR.reop hp (h.val t),?_,h.gl⟩
  have key:∀ (ms:List AV) (ds:List Deferred),DM φ ms ds→DM (φ.reop op) ms ds:=by
    intro ms
    induction ms with
    | nil=>exact fun ds h=>h
    | cons m ms ih =>
      intro ds h
      obtain⟨x,ds',h1,h2,h3⟩:=h
      exact⟨x,ds',h1,h2,ih ds' h3⟩
  exact key _ _ h.defers
theorem ztw{i:Nat}{T T1:Fr}{H:Hp}:∀ (ks:List (Nat × BR)),(zeD i (offK T ks)).run r T1 H=(zeD i ks).run r T H:=by
  intro ks
  induction ks with
  | nil=>rfl
  | cons x ks ih =>
    show (bi (nbeq x.1 i) (offT T x.2) (zeD i (offK T ks))).run r T1 H=(bi (nbeq x.1 i) x.2 (zeD i ks)).run r T H
    cases nbeq x.1 i
    · exact ih
    · rfl
theorem HR.addz{z1:Nat→Option (List Value)}(hr:HR P w0 H φ w)(hz:zd4 z1 w)(hnew:∀ x C,z1 x=some C→φ.fz x=some C ∨ (w0.heap.size≤x∧∀ b,φ b ≠ some x)) :
    ∃ φ':Ph,HR P w0 H φ' w∧EX H φ H φ'∧φ'.f=φ.f∧(∀ x C,z1 x=some C→φ'.fz x=some C):=by
  let φ':Ph:=⟨φ.f,φ.k,φ.op,fun x=>(φ.fz x).or (z1 x),φ.tl⟩
  have hsp:∀ x C,φ'.fz x=some C→φ.fz x=some C ∨ (φ.fz x=none∧z1 x=some C):=fun x C h=>by
    have h':(φ.fz x).or (z1 x)=some C:=h
    cases e:φ.fz x with
    | none=>rw[e] at h';exact .inr ⟨rfl,h'⟩
    | some D=>rw[e] at h';exact .inl h'
  have hle:Le φ φ':=⟨fun _ _ h=>⟨h,rfl⟩,rfl,fun x C h=>by show (φ.fz x).or (z1 x)=some C;rw[h];rfl,fun _ _ _=>rfl⟩
  refine⟨φ',⟨?_,hr.inj,hr.n,hr.lim,hr.below.op rfl,hr.gl,hr.op,?_,hr.tl,?_⟩,⟨hle,fun b y hb hn=>(by have hb':φ b=some y:=hb;rw[hb'] at hn;cases hn),Nat.le_refl _,rfl,fun _ _ _=>rfl,fun _ _ _ _=>rfl,fun _ _ _ h=>h,?_⟩,rfl,?_⟩
  · intro b y hb
    obtain⟨h1,h2,o,h3,h4⟩:=hr.blk b y hb
    exact⟨h1,h2,o,h3,h4.mono hle rfl⟩
  · intro x C hx
    rcases hsp x C hx with h | ⟨h1,h2⟩
    · exact hr.fz x C h
    · refine⟨hz x C h2,fun b hb _=>?_⟩
      rcases hnew x C h2 with h | ⟨_,h⟩
      · rw[h1] at h;cases h
      · exact absurd hb (h b)
  · intro x C hx
    rcases hsp x C hx with h | ⟨h1,h2⟩
    · exact hr.fo x C h
    · rcases hnew x C h2 with h | ⟨h,_⟩
      · rw[h1] at h;cases h
      · exact .inl (.inl h)
  · intro x C hx
    rcases hsp x C hx with h | ⟨h1,h2⟩
    · exact .inl h
    · refine .inr fun b _ hb=>?_
      rcases hnew x C h2 with h | ⟨_,h⟩
      · rw[h1] at h;cases h
      · exact absurd hb (h b)
  · intro x C hx
    show (φ.fz x).or (z1 x)=some C
    cases e:φ.fz x with
    | none=>exact hx
    | some D =>
      rcases hnew x C hx with h | ⟨_,h⟩
      · rw[e] at h;exact h
      · obtain⟨⟨t,fr,h1⟩,_⟩:=hr.fz x D e
        obtain⟨t',fr',h2⟩:=hz x C hx
        rw[h1] at h2
        have h3:=Option.some.inj h2
        injection h3 with h3 _ _
        show some D=some C
        congr 1
        simpa using h3
section main
variable (hm:P.follows .mixedOrders=true) (hrec:zaU P r) (hL:AllOk L) (h5:∀ x ∈ L,x.tag=5) (hk:P.globals.size+k0≤32767) (hφ0:∀ b x,φ0 b=some x→b<P.globals.size+k0) (hpl:PlainOp φ0) (hG:P.globals.size≤w0.heap.size)
include hm hrec hL h5 hk hφ0 hpl hG
theorem zuQ{rp:List Nat}{ps:Array Tmp}{as body:Code}{k:BR}{ks:List (Nat × BR)}{jmp:Jmp}{e:AV}{es:List AV}{l fnid dfs:Nat}{rec0:Loop}{v:Value}{W:World}(hs:St P w0 N (Hk P k0) φ0 T H φ a W)(hrec0:rec0={ state:=.ready,pending:=none,fn:=fnid,tmps:=a.tmps,params:=ps,assign:=as,body:=body,defers:=dfs })
    (hl:W.heap[l]?=some (.loop rec0)) (hl0:w0.heap.size≤l) (hno:∀ b,φ b=some l→b<P.globals.size) (hv:VR φ e v)
    (h:∀ x ∈ ziF P N lab k0 r jmp fin rp ps.toList as body k ks (e::es) T H,x ∈ L) :
    zvG P l #[v] W fun en W'=>∃ H' φ',St P w0 N (Hk P k0) φ0 T H' φ' a W'∧(∀ x C,φ.fz x=some C→φ'.fz x=some C)∧(∀ b,φ' b=some l→b<P.globals.size) ∧
      ((en=.returned (.bool true)∧W'.heap[l]?=some (.loop rec0)∧∀ x ∈ zfc P lab k0 jmp (9::rp) [tupV es] T H',x ∈ L) ∨
       (en=.returned (.bool false)∧W'.heap[l]?=some (.loop { rec0 with state:=.done,pending:=some .ret })∧∀ x ∈ fin.run r T H',x ∈ L) ∨
       ∃ i,en=.returned (.bool false)∧W'.heap[l]?=some (.loop { rec0 with state:=.done,pending:=some (.exit i) })∧∀ x ∈ (zeD i ks).run r T H',x ∈ L):=by
  have _:=hφ0
  have hlim:∀ {H1:Hp} {φ1:Ph},EX (Hk P k0) φ0 H1 φ1→H1.lim=P.globals.size:=fun h=>h.lim.trans Hk_n.2
  have h':∀ x ∈ bi (bi (nbeq (lenL ps.toList) 1) (allL (fun p=>nble (Nat.succ p) N) ps.toList) false)
    ((zbm P N (fun _=>none) k0 (fun _=>none) jmp0 ⟨fun _ _ _=>zab 253⟩ (0::rp) as
      (zbm P N (fun _=>none) k0 (fun _=>none) jmp0 (offT T fin) (1::rp) body ⟨fun _ _ H=>zfc P lab k0 jmp (9::rp) [tupV es] T H⟩ (offK T ks)) []).run r (zgk ps.toList [e] (noMk T)) H) (zab 254),x ∈ L:=h
  cases hps:bi (nbeq (lenL ps.toList) 1) (allL (fun p=>nble (Nat.succ p) N) ps.toList) false
  · rw[hps] at h';exact (zaq hL h').elim
  rw[hps,zag] at h'
  obtain⟨hp1,hp2⟩:=zaw.1 hps
  have hp1:=zaa.1 hp1
  rw[zaz] at hp1
  rw[zcH,List.all_eq_true] at hp2
  subst hrec0
  refine⟨fnid,_,as,body,run_yield hl (by simpa using hp1.symm),fun ro=>roundIn_of_wpIn (F:=fen ro) trivial ?_⟩
  have hpφ:PlainOp φ:=hpl.of_op hs.ex.keep.op
  let X:Nat→Prop:=fun x=>∃ b,φ b=some x∧H.lim≤b
  have hX1:∀ b x,φ b=some x→H.lim≤b→X x:=fun b x h1 h2=>⟨b,h1,h2⟩
  have hX2:∀ x,X x→OwnB w0 φ x:=fun x ⟨b,h1,h2⟩=>(hs.hr.blk b x h1).2.1 h2
  have hr1:=rebase hpφ hs.hr hG hX1 hX2
  have hsz:W.heap.size ≥ w0.heap.size:=hs.hr.below.size
  have hfold:(ps.zip #[v]).foldl (fun tmps (ta:Tmp × Value)=>tmps.setIfInBounds ta.1 ta.2) a.tmps=(ps.toList.zip [v]).foldl (fun tmps ta=>tmps.setIfInBounds ta.1 ta.2) a.tmps:=by
    rw[← Array.foldl_toList,Array.toList_zip]
  have htr:=zny (N:=N) (φ:=φ.reop (rbOp X φ)) (T:=noMk T) ps.toList (.cons (VR.reop hpφ hv) .nil) (fun p hp=>zah.1 (hp2 p hp)) ⟨hs.tr.size,fun t=>by rw[zlR];exact VR.reop hpφ (hs.tr.val t),by rw[zjw];rfl,hs.tr.gl⟩
  rw[← hfold] at htr
  refine wpIn_mono (zjz (ro:=some l) (w0:=W) (H0:=H) (φ0:=φ.reop (rbOp X φ)) (fin:=⟨fun _ _ _=>zab 253⟩) hm hrec hL h5 as (0::rp) _ _ ⟨htr,hr1,EX.refl _ _⟩ h') ?_
  intro ex a1 W1 hq
  cases ex with
  | exit i =>
    obtain⟨_,_,T1,H1,φ1,_,hx⟩:=hq
    exact (zaq hL (show ∀ x ∈ zab 244,x ∈ L from hx)).elim
  | ret =>
    obtain⟨_,_,T1,H1,φ1,_,hx⟩:=hq
    exact (zaq hL (show ∀ x ∈ zab 253,x ∈ L from hx)).elim
  | goto i=>exact hq.elim
  | panic ch=>exact hq.elim
  | outgrown=>exact hq.elim
  | normal =>
    obtain⟨_,_,T1,H1,φ1,hs1,hx1⟩:=hq
    have hlW:l<W.heap.size:=(Array.getElem?_eq_some_iff.1 hl).1
    have hnX:¬ X l:=fun⟨b,h1,h2⟩=>by have:=hno b h1;rw[hlim hs.ex] at h2;omega
    have hex1:¬ exB φ1 l:=fun h=>hnX ((zkO hs1.ex.keep.op).1 h)
    have hl1:W1.heap[l]?=some (.loop _):=(hs1.hr.below.block l hlW hex1).trans hl
    obtain⟨hu1,hu2⟩:=unbase hs.hr hX2 hs1.hr hs1.ex
    have hpl1:PlainOp φ1:=fun n v h=>by rw[hs1.ex.keep.op] at h;exact znU n v h
    have hno1:∀ b,φ1 b=some l→b<P.globals.size:=fun b hb=>by
      rcases Nat.lt_or_ge b P.globals.size with h | h
      · exact h
      · exfalso
        have hl1':H1.lim=P.globals.size:=hs1.ex.lim.trans (hlim hs.ex)
        rcases (hs1.hr.blk b l hb).2.1 (by omega) with h | h
        · omega
        · exact hex1 h
    refine⟨_,run_beginRound hl1 rfl,?_⟩
    have hlow1:∀ b,b<P.globals.size→(hget H1 b).kind=0:=fun b hb=>by
      have hn:=hu1.n
      have:hget H1 b=hget (Hk P k0) b:=(hs.ex.trans hu2).low b (by rw[Hk_n.2];exact hb) (by omega)
      rw[this,zeC hk hb];rfl
    have ht1:=hu1.touch (l:=l) (o':=.loop { state:=.busy,pending:=none,fn:=fnid,tmps:=a.tmps,params:=ps,assign:=as,body:=body,defers:=dfs }) (fun b hb=>hlow1 b (hno1 b hb)) hl0 hl1 (fun _ _ _ h=>by cases h)
    generalize hW2:W1.putObj l (.loop { state:=.busy,pending:=none,fn:=fnid,tmps:=a.tmps,params:=ps,assign:=as,body:=body,defers:=dfs })=W2 at ht1
    have hl2:W2.heap[l]?=some (.loop { state:=.busy,pending:=none,fn:=fnid,tmps:=a.tmps,params:=ps,assign:=as,body:=body,defers:=dfs }):=by
      rw[← hW2]
      exact (zbZ (w:=W1) _ hl1).1
    have hpu:PlainOp (φ1.reop φ.op):=hpl.of_op hs.ex.keep.op
    let X2:Nat→Prop:=fun x=>∃ b,φ1 b=some x∧H1.lim≤b
    have hX21:∀ b x,(φ1.reop φ.op) b=some x→H1.lim≤b→X2 x:=fun b x h1 h2=>⟨b,h1,h2⟩
    have hX22:∀ x,X2 x→OwnB w0 (φ1.reop φ.op) x:=fun x ⟨b,h1,h2⟩=>(ht1.blk b x h1).2.1 h2
    have hr2:=rebase hpu ht1 hG hX21 hX22
    have htr2:TR P ((φ1.reop φ.op).reop (rbOp X2 (φ1.reop φ.op))) N T1 a1:=TR.reop hpu (TR.reop hpl1 hs1.tr)
    refine wpIn_mono (zjz (ro:=some l) (w0:=W2) (H0:=H1) (φ0:=(φ1.reop φ.op).reop (rbOp X2 (φ1.reop φ.op))) (fin:=offT T fin) hm hrec hL h5 body (1::rp) _ _ ⟨htr2,hr2,EX.refl _ _⟩ hx1) ?_
    have hfin:∀ (T3:Fr) (H3:Hp) (φ3:Ph) (a3:Act) (W3:World) (rec':Loop),St P W2 N H1 ((φ1.reop φ.op).reop (rbOp X2 (φ1.reop φ.op))) T3 H3 φ3 a3 W3 →
        W3.heap[l]?=some (.loop { state:=.busy,pending:=none,fn:=fnid,tmps:=a.tmps,params:=ps,assign:=as,body:=body,defers:=dfs }) ∧
        ∃ φ4,St P w0 N (Hk P k0) φ0 T H3 φ4 a (W3.putObj l (.loop rec'))∧(∀ x C,φ.fz x=some C→φ4.fz x=some C)∧(∀ b,φ4 b=some l→b<P.globals.size):=by
      intro T3 H3 φ3 a3 W3 rec' hs3
      have hnX2:¬ X2 l:=fun⟨b,h1,h2⟩=>by
        have:=hno1 b h1
        have hl1':H1.lim=P.globals.size:=hs1.ex.lim.trans (hlim hs.ex)
        omega
      have hex3:¬ exB φ3 l:=fun h=>hnX2 ((zkO hs3.ex.keep.op).1 h)
      have hlW2:l<W2.heap.size:=(Array.getElem?_eq_some_iff.1 hl2).1
      have hl3:=(hs3.hr.below.block l hlW2 hex3).trans hl2
      obtain⟨hv1,hv2⟩:=unbase ht1 hX22 hs3.hr hs3.ex
      have hno3:∀ b,φ3 b=some l→b<P.globals.size:=fun b hb=>by
        rcases Nat.lt_or_ge b P.globals.size with h | h
        · exact h
        · exfalso
          have hl1':H3.lim=P.globals.size:=hs3.ex.lim.trans (hs1.ex.lim.trans (hlim hs.ex))
          rcases (hs3.hr.blk b l hb).2.1 (by omega) with h | h
          · omega
          · exact hex3 h
      have hext:EX H φ H3 (φ3.reop (φ1.reop φ.op).op):=hu2.trans hv2
      have hlow3:∀ b,b<P.globals.size→(hget H3 b).kind=0:=fun b hb=>by
        have hn:=hv1.n
        have:hget H3 b=hget (Hk P k0) b:=(hs.ex.trans hext).low b (by rw[Hk_n.2];exact hb) (by omega)
        rw[this,zeC hk hb];rfl
      have ht3:=hv1.touch (l:=l) (o':=.loop rec') (fun b hb=>hlow3 b (hno3 b hb)) hl0 hl3 (fun _ _ _ h=>by cases h)
      exact⟨hl3,_,⟨hs.tr.mono hext.keep,ht3,hs.ex.trans hext⟩,hext.keep.fz,hno3⟩
    intro ex3 a3 W3 hq3
    cases ex3 with
    | goto i=>exact hq3.elim
    | panic ch=>exact hq3.elim
    | outgrown=>exact hq3.elim
    | normal =>
      obtain⟨_,_,T3,H3,φ3,hs3,hx3⟩:=hq3
      obtain⟨g1,φ4,g2,g3,g4⟩:=hfin T3 H3 φ3 a3 W3 { state:=.ready,pending:=none,fn:=fnid,tmps:=a.tmps,params:=ps,assign:=as,body:=body,defers:=dfs } hs3
      exact⟨_,_,run_endRound none g1,H3,φ4,g2,g3,g4,.inl ⟨rfl,(zbZ (w:=W3) _ g1).1,hx3⟩⟩
    | ret =>
      obtain⟨_,_,T3,H3,φ3,hs3,hx3⟩:=hq3
      obtain⟨g1,φ4,g2,g3,g4⟩:=hfin T3 H3 φ3 a3 W3 { state:=.done,pending:=some .ret,fn:=fnid,tmps:=a.tmps,params:=ps,assign:=as,body:=body,defers:=dfs } hs3
      exact⟨_,_,run_endRound (some .ret) g1,H3,φ4,g2,g3,g4,.inr (.inl ⟨rfl,(zbZ (w:=W3) _ g1).1,hx3⟩)⟩
    | exit i =>
      obtain⟨_,_,T3,H3,φ3,hs3,hx3⟩:=hq3
      obtain⟨g1,φ4,g2,g3,g4⟩:=hfin T3 H3 φ3 a3 W3 { state:=.done,pending:=some (.exit i),fn:=fnid,tmps:=a.tmps,params:=ps,assign:=as,body:=body,defers:=dfs } hs3
      exact⟨_,_,run_endRound (some (.exit i)) g1,H3,φ4,g2,g3,g4,.inr (.inr ⟨i,rfl,(zbZ (w:=W3) _ g1).1,fun x hx=>hx3 x (by rw[ztw ks];exact hx)⟩)⟩
end main
end Go.Eng
namespace Go.Eng
open Go.RowKit
variable {P:Program} {w0:World} {H Hb H0:Hp} {φ φ0 φ':Ph} {w:World} {N k0:Nat} {T:Fr} {a:Act} {r:Rec} {lab:LabW} {Gn:Gens} {fin:BR} {top:Code} {L:RL}
section main
variable (hm:P.follows .mixedOrders=true) (hgor:zhI P) (hrec:zaU P r) (hL:AllOk L) (h5:∀ x ∈ L,x.tag=5) (hk:P.globals.size+k0≤32767) (hφ0:∀ b x,φ0 b=some x→b<P.globals.size+k0) (hpl:PlainOp φ0) (hG:P.globals.size≤w0.heap.size)
  (hGn:∀ f g,Gn f=some g→∃ fn,P.funcs[f]?=some fn∧fn.body.isNone=false)
include hm hgor hrec hL h5 hk hφ0 hpl hG hGn
theorem zpj{rp:List Nat}{g:Operand}{ps:Array Tmp}{as body:Code}{k:Nat→BR}{ks:Nat→List (Nat × BR)}(hat:∀ n,ctxW P N lab k0 Gn top (jmpW P N lab k0 Gn r top fin n) fin rp=some ⟨.rangeFunc g ps as body,k n,ks n⟩){m:Nat}{es:List AV}
    (hs:St P w0 N (Hk P k0) φ0 T H φ a w) (h:∀ x ∈ zfc P lab k0 (jmpW P N lab k0 Gn r top fin m) (9::rp) [tupV es] T H,x ∈ L) :
    ∃ m',m=m'+1∧∃ T' H' φ',St P w0 N (Hk P k0) φ0 T' H' φ' a w∧(∀ x C,φ.fz x=some C→φ'.fz x=some C)∧(∀ b x,φ' b=some x→b<P.globals.size ∨ ∃ c,P.globals.size≤c∧φ c=some x) ∧
      ∀ x ∈ ziF P N lab k0 r (jmpW P N lab k0 Gn r top fin m') fin rp ps.toList as body (k m') (ks m') es T' H',x ∈ L:=by
  have _:=hm
  have _:=hgor
  have _:=hrec
  have _:=h5
  have _:=hpl
  have _:=hG
  have _:=hGn
  cases hl:lab (9::rp) with
  | none =>
    have h':∀ x ∈ om (lab (9::rp)) (zab 240) _,x ∈ L:=h
    rw[hl] at h';exact (zaq hL h').elim
  | some live =>
    obtain⟨ds,h1,h2⟩:=zmk hk hφ0 hL hl hs h
    cases m with
    | zero=>exact (zaq hL h1).elim
    | succ m =>
      refine⟨m,rfl,?_⟩
      have h3:∀ x ∈ om (ctxW P N lab k0 Gn top (jmpW P N lab k0 Gn r top fin m) fin rp) (zab 247) (fun x=>(match x.c with
        | .rangeFunc _ ps as body=>om (lab (9::rp)) (zab 247) fun live=>zgd P live (zbJ (tupV es::ds) 1) fun T H=>ziF P N lab k0 r (jmpW P N lab k0 Gn r top fin m) fin rp ps.toList as body x.k x.ks (nthL (tupV es::ds) 0).cs T H
        | _=>zab 247)),x ∈ L:=h1
      rw[hat m,zan] at h3
      have h4:∀ x ∈ om (lab (9::rp)) (zab 247) (fun live=>zgd P live (zbJ (tupV es::ds) 1) fun T H=>ziF P N lab k0 r (jmpW P N lab k0 Gn r top fin m) fin rp ps.toList as body (k m) (ks m) (nthL (tupV es::ds) 0).cs T H),x ∈ L:=h3
      rw[hl,zan] at h4
      obtain⟨T',H',φ',g1,g2,g3,g4⟩:=h2 _ h4
      exact⟨T',H',φ',g1,g2,g3,g4⟩
theorem zuR{rp:List Nat}{g:Operand}{ps:Array Tmp}{as body:Code}{k:Nat→BR}{ks:Nat→List (Nat × BR)}(hat:∀ n,ctxW P N lab k0 Gn top (jmpW P N lab k0 Gn r top fin n) fin rp=some ⟨.rangeFunc g ps as body,k n,ks n⟩)(n:Nat)
    (hs:St P w0 N (Hk P k0) φ0 T H φ a w) (h:∀ x ∈ (znR P lab k0 Gn (jmpW P N lab k0 Gn r top fin n) rp g).run r T H,x ∈ L):(Code.rangeFunc g ps as body).wpIn (fen none) 0 P (QYY P w0 r N (Hk P k0) φ0 L fin n k ks) a w:=by
  refine wpIn_rangeFunc fun fnid _=>?_
  have h':∀ x ∈ newC H ⟨4,0,0,[]⟩ yldV (fun H' _=>(fun v:AV=>bi (nbeq v.tag 13) (bi (nbeq v.q 0) (om (Gn v.p) (zab 250) fun L=>om (zhq v.cs H') (zab 250) fun x =>
    bi (nbeq (okN (zhT P v.p x.1 (L x.1))) 1) (zfc P lab k0 (jmpW P N lab k0 Gn r top fin n) (9::rp) [tupV (L x.1)] (zcF T H.n) x.2) (zab 301)) (zab 250)) (zab 250)) ((getO P g).run T)),x ∈ L:=h
  unfold newC at h'
  cases hn:nble H.n 32766
  · rw[hn] at h';exact (zaq hL h').elim
  rw[hn,zag] at h'
  obtain⟨φ1,hr1,hex1,hφ1⟩:=zll (B:=⟨4,0,0,[]⟩) (o:=.deferred (some [])) hs.hr (zah.1 hn) ⟨(fun h=>by cases h),(fun h=>by cases h),(fun h=>by cases h),fun _=>.inl ⟨rfl,rfl⟩⟩
  have htr:=hs.tr.mono hex1.keep
  have hg:=hs.tr.eval g
  generalize hvg:(getO P g).run T=v at h' hg
  simp only[] at h'
  cases h13:nbeq v.tag 13
  · rw[h13] at h';exact (zaq hL h').elim
  rw[h13,zag] at h'
  cases hq:nbeq v.q 0
  · rw[hq] at h';exact (zaq hL h').elim
  rw[hq,zag] at h'
  cases hgn:Gn v.p with
  | none=>rw[hgn] at h';exact (zaq hL h').elim
  | some Lf =>
  rw[hgn,zan] at h'
  cases hfc:zhq v.cs (hnew H ⟨4,0,0,[]⟩) with
  | none=>rw[hfc] at h';exact (zaq hL h').elim
  | some x =>
  obtain⟨cs,H2⟩:=x
  rw[hfc,zan] at h'
  simp only[] at h'
  cases hok:nbeq (okN (zhT P v.p cs (Lf cs))) 1
  · rw[hok] at h';exact (zaq hL h').elim
  rw[hok,zag] at h'
  have hgen:zhT P v.p cs (Lf cs):=zak.1 (zaa.1 hok)
  generalize Lf cs=es at hgen h'
  obtain⟨first,cap,hval,hcs,hlen⟩:=hg.of_fn (zaa.1 h13)
  rw[zaa.1 hq] at hlen
  have hf0:first=[]:=List.length_eq_zero_iff.1 hlen
  subst hf0
  rw[List.nil_append] at hcs
  obtain⟨φ2,hr2,hex2,hf2,hfv⟩:=zqZ v.cs hfc hr1 (hcs.mono hex1.keep)
  obtain⟨fn,hfn,hbody⟩:=hGn _ _ hgn
  let a1:Act:={ a with defers:=[{ target:=.collected w.heap.size,args:=#[] }]++a.defers }
  have hs2:St P w0 N (Hk P k0) φ0 (zcF T H.n) H2 φ2 a1 (w.alloc (.deferred (some []))) :=
    ⟨⟨htr.size,fun t=>by rw[zfR];exact (htr.val t).mono hex2.keep,⟨w.heap.size,a.defers,rfl,(hex2.keep _ _ hφ1).1,htr.defers.mono hex2.keep⟩,hr2.gl⟩,hr2,(hs.ex.trans hex1).trans hex2⟩
  let rec0:Loop:={ state:=.ready,pending:=none,fn:=fnid,tmps:=a.tmps,params:=ps,assign:=as,body:=body,defers:=w.heap.size }
  have hszA:(w.alloc (.deferred (some []))).heap.size=w.heap.size+1:=World.size_alloc _ _
  have hBel:Below (w.alloc (.deferred (some []))).heap.size (w.alloc (.deferred (some []))) ((w.alloc (.deferred (some []))).alloc (.loop rec0)):=(Below.refl _ _).alloc (Nat.le_refl _) _
  have hs3:=hs2.below' hBel
  have hlB:((w.alloc (.deferred (some []))).alloc (.loop rec0)).heap[w.heap.size+1]?=some (.loop rec0):=by
    rw[← hszA];exact World.alloc_heap_new _ _
  generalize hwB:(w.alloc (.deferred (some []))).alloc (.loop rec0)=wB at hs3 hlB
  have hl0:w0.heap.size≤w.heap.size+1:=Nat.le_succ_of_le hs.hr.below.size
  have hno:∀ b,φ2 b ≠ some (w.heap.size+1):=fun b hb=>by
    obtain⟨_,_,o,h3,_⟩:=hs2.hr.blk b _ hb
    have:=(Array.getElem?_eq_some_iff.1 h3).1
    omega
  refine⟨w.heap.size+1,[{ target:=.collected w.heap.size,args:=#[] }],wB,{ target:=.fn (.func v.p) cap.toArray,args:=#[.func (.yield (w.heap.size+1)) #[] #[]] },wB,v.p,#[.func (.yield (w.heap.size+1)) #[] #[]]++cap.toArray,wB,?_,?_,fun _ _=>trivial,?_,zdC,?_⟩
  · rw[← hwB];exact run_enterLoop_outer _ _ _ _ _
  · have:a.eval (.const (.func (.yield (w.heap.size+1)) #[] #[]))=.func (.yield (w.heap.size+1)) #[] #[]:=rfl
    simp only[resolve,rangeCall,hval,Deferred.ofValue,Sem.run_pure',List.map_toArray,List.map_cons,List.map_nil,this]
    rfl
  · simp only[invoke,callFunc,program,Sem.run_bind,Sem.run,hfn,Sem.run_pure',Result.andThen_ok,hbody,hgor _ _ hfn]
    rfl
  · have e0:#[Value.func (.yield (w.heap.size+1)) #[] #[]]++cap.toArray=(Value.func (.yield (w.heap.size+1)) #[] #[]::cap).toArray:=by simp
    rw[e0]
    let J:Nat→(Nat→Option (List Value))→World→Prop:=fun i z W=>∃ m Ti Hi φi,m≤n∧St P w0 N (Hk P k0) φ0 Ti Hi φi a1 W∧(∀ x C,z x=some C→φi.fz x=some C)∧(∀ b,φi b=some (w.heap.size+1)→b<P.globals.size)∧W.heap[w.heap.size+1]?=some (.loop rec0) ∧
      ∀ x ∈ zfc P lab k0 (jmpW P N lab k0 Gn r top fin m) (9::rp) [tupV (es.drop i)] Ti Hi,x ∈ L
    let E:World→Prop:=fun W=>(W.heap[w.heap.size+1]?=some (.loop { rec0 with state:=.done,pending:=some .ret })∧∃ m Ti Hi φi,m≤n∧St P w0 N (Hk P k0) φ0 Ti Hi φi a1 W∧(∀ b,φi b=some (w.heap.size+1)→b<P.globals.size)∧∀ x ∈ fin.run r Ti Hi,x ∈ L) ∨
      ∃ j,W.heap[w.heap.size+1]?=some (.loop { rec0 with state:=.done,pending:=some (.exit j) })∧∃ m Ti Hi φi,m≤n∧St P w0 N (Hk P k0) φ0 Ti Hi φi a1 W∧(∀ b,φi b=some (w.heap.size+1)→b<P.globals.size)∧∀ x ∈ (zeD j (ks m)).run r Ti Hi,x ∈ L
    have hkeep:∀ {W W':World} {o:Obj},W.heap[w.heap.size+1]?=some o→Below W.heap.size W W'→W'.heap[w.heap.size+1]?=some o:=fun h hb=>by
      rw[hb.block _ (Array.getElem?_eq_some_iff.1 h).1];exact h
    have hlow:∀ {Hi:Hp} {φi:Ph} {W:World} {Ti:Fr},St P w0 N (Hk P k0) φ0 Ti Hi φi a1 W→∀ b,b<P.globals.size→(hget Hi b).kind=0:=fun {Hi φi W Ti} h b hb=>by
      have hn:=h.hr.n
      have h1:=h.ex.n
      rw[Hk_n.1] at h1
      have:hget Hi b=hget (Hk P k0) b:=h.ex.low b (by rw[Hk_n.2];exact hb) (by omega)
      rw[this,zeC hk hb];rfl
    have hadd:∀ {Ti:Fr} {Hi:Hp} {φi:Ph} {W W1:World} {z z1:Nat→Option (List Value)},St P w0 N (Hk P k0) φ0 Ti Hi φi a1 W→(∀ x C,z x=some C→φi.fz x=some C)→Below W.heap.size W W1→(∀ x C,z1 x=some C→z x=some C ∨ W.heap.size≤x)→zd4 z1 W1 →
        ∃ φe,St P w0 N (Hk P k0) φ0 Ti Hi φe a1 W1∧φe.f=φi.f∧∀ x C,z1 x=some C→φe.fz x=some C:=fun {Ti Hi φi W W1 z z1} g2 g3 hb hz2 hz3=>by
      have g2b:=g2.below' hb
      have hnm:∀ x,W.heap.size≤x→∀ b,φi b ≠ some x:=fun x hx b hbx=>by
        obtain⟨_,_,o,h3,_⟩:=g2.hr.blk b x hbx
        have:=(Array.getElem?_eq_some_iff.1 h3).1
        omega
      obtain⟨φe,e1,e2,e3,e4⟩:=g2b.hr.addz hz3 (fun x C hx=>by
        rcases hz2 x C hx with h | h
        · exact .inl (g3 x C h)
        · exact .inr ⟨Nat.le_trans g2.hr.below.size h,hnm x h⟩)
      exact⟨φe,⟨g2b.tr.mono e2.keep,e1,g2b.ex.trans e2⟩,e3,e4⟩
    refine zeX (Calls.mono (hgen φ2.fz wB cap (.func (.yield (w.heap.size+1)) #[] #[]) J E ⟨⟨rfl,rfl⟩,?_,?_,?_,?_,?_⟩ hfv ?_) ?_)
    · rintro i z z1 W W' ⟨m,Ti,Hi,φi,g1,g2,g3,g4,g5,g6⟩ hb hz1 hz2 hz3
      obtain⟨φe,e1,e2,e3⟩:=hadd g2 g3 hb hz2 hz3
      exact⟨m,Ti,Hi,φe,g1,e1,e3,by rw[e2];exact g4,hkeep g5 hb,g6⟩
    · rintro W W' (⟨g0,m,Ti,Hi,φi,g1,g2,g3,g4⟩ | ⟨j,g0,m,Ti,Hi,φi,g1,g2,g3,g4⟩) hb
      · exact .inl ⟨hkeep g0 hb,m,Ti,Hi,φi,g1,g2.below' hb,g3,g4⟩
      · exact .inr ⟨j,hkeep g0 hb,m,Ti,Hi,φi,g1,g2.below' hb,g3,g4⟩
    · rintro W (⟨g0,m,Ti,Hi,φi,g1,g2,g3,g4⟩ | ⟨j,g0,m,Ti,Hi,φi,g1,g2,g3,g4⟩)<;>exact Nat.le_trans hG g2.hr.below.size
    · rintro i z W ⟨m,Ti,Hi,φi,g1,g2,g3,g4,g5,g6⟩
      exact⟨fun x C hx=>(g2.hr.fz x C (g3 x C hx)).1,Nat.le_trans hG g2.hr.below.size⟩
    · rintro i e hie W z v1 ⟨m,Ti,Hi,φi,g1,g2,g3,g4,g5,g6⟩ hv1
      obtain⟨m',rfl,T',H',φ',k1,k2,k3,k4⟩:=zpj hm hgor hrec hL h5 hk hφ0 hpl hG hGn hat g2 g6
      have hd:es.drop i=e::es.drop (i+1):=by
        obtain⟨hi,hi'⟩:=List.getElem?_eq_some_iff.1 hie
        rw[List.drop_eq_getElem_cons hi,hi']
      rw[hd] at k4
      have hnoe:∀ b,φ' b=some (w.heap.size+1)→b<P.globals.size:=fun b hb=>by
        rcases k3 b _ hb with h | ⟨c,h1,h2⟩
        · exact h
        · have:=g4 c h2;omega
      have hve:VR φ' e v1:=(hv1.mono (fun x C hx=>k2 x C (g3 x C hx))) φ' rfl
      obtain⟨f,tmps,as',body',y1,y2⟩:=zuQ hm hrec hL h5 hk hφ0 hpl hG (rec0:=rec0) (dfs:=w.heap.size) (fnid:=fnid) (lab:=lab) k1 rfl g5 hl0 hnoe hve k4
      refine .inr ⟨_,rfl,f,tmps,as',body',y1,fun ro=>RoundIn.mono (y2 ro) ?_⟩
      rintro en W' ⟨H3,φ3,q1,q2,q3,q4⟩
      rcases q4 with⟨rfl,q5,q6⟩ | ⟨rfl,q5,q6⟩ | ⟨j,rfl,q5,q6⟩
      · exact .inl ⟨rfl,m',T',H3,φ3,by omega,q1,fun x C hx=>q2 x C (k2 x C (g3 x C hx)),q3,q5,q6⟩
      · exact .inr ⟨rfl,.inl ⟨q5,m',T',H3,φ3,by omega,q1,q3,q6⟩⟩
      · exact .inr ⟨rfl,.inr ⟨j,q5,m',T',H3,φ3,by omega,q1,q3,q6⟩⟩
    · exact⟨n,zcF T H.n,H2,φ2,Nat.le_refl _,hs3,fun _ _ h=>h,fun b hb=>absurd hb (hno b),hlB,h'⟩
    · rintro en W' ⟨⟨vv,rfl⟩,hJE⟩
      rcases hJE with⟨_,m,Ti,Hi,φi,g1,g2,g3,g4,g5,g6⟩ | ⟨g0,m,Ti,Hi,φi,g1,g2,g3,g4⟩ | ⟨j,g0,m,Ti,Hi,φi,g1,g2,g3,g4⟩
      · obtain⟨m',rfl,T',H',φ',k1,k2,k3,k4⟩:=zpj hm hgor hrec hL h5 hk hφ0 hpl hG hGn hat g2 g6
        rw[List.drop_length] at k4
        have hno':∀ b,φ' b=some (w.heap.size+1)→b<P.globals.size:=fun b hb=>by
          rcases k3 b _ hb with h | ⟨c,h1,h2⟩
          · exact h
          · have:=g4 c h2;omega
        refine⟨none,_,run_endLoop g5 (fun h=>by cases h),?_⟩
        exact⟨m',by omega,T',H',φ',⟨k1.tr,k1.hr.touch (fun b hb=>hlow k1 b (hno' b hb)) hl0 g5 (fun _ _ _ h=>by cases h),k1.ex⟩,k4⟩
      · refine⟨some .ret,_,run_endLoop g0 (fun h=>by cases h),wpIn_ret ⟨m,g1,Ti,Hi,φi,⟨g2.tr,g2.hr.touch (fun b hb=>hlow g2 b (g3 b hb)) hl0 g0 (fun _ _ _ h=>by cases h),g2.ex⟩,g4⟩⟩
      · refine⟨some (.exit j),_,run_endLoop g0 (fun h=>by cases h),wpIn_exit ⟨m,g1,Ti,Hi,φi,⟨g2.tr,g2.hr.touch (fun b hb=>hlow g2 b (g3 b hb)) hl0 g0 (fun _ _ _ h=>by cases h),g2.ex⟩,g4⟩⟩
theorem zoz(c:Code)(rp:List Nat)(k:Nat→BR)(ks:Nat→List (Nat × BR))(hat:∀ n,ctxW P N lab k0 Gn top (jmpW P N lab k0 Gn r top fin n) fin rp=some ⟨c,k n,ks n⟩)(n:Nat)(hs:St P w0 N (Hk P k0) φ0 T H φ a w)
    (h:∀ x ∈ (zbm P N lab k0 Gn (jmpW P N lab k0 Gn r top fin n) fin rp c (k n) (ks n)).run r T H,x ∈ L):c.wpIn (fen none) 0 P (QYY P w0 r N (Hk P k0) φ0 L fin n k ks) a w:=by
  have hkid:∀ {rp:List Nat} {c:Code} {k:Nat→BR} {ks:Nat→List (Nat × BR)} {d:Nat} {c':Code} {k':Nat→BR} {ks':Nat→List (Nat × BR)},(∀ n,ctxW P N lab k0 Gn top (jmpW P N lab k0 Gn r top fin n) fin rp=some ⟨c,k n,ks n⟩) →
      (∀ n,kidW P N lab k0 Gn (jmpW P N lab k0 Gn r top fin n) fin rp d ⟨c,k n,ks n⟩=some ⟨c',k' n,ks' n⟩)→∀ n,ctxW P N lab k0 Gn top (jmpW P N lab k0 Gn r top fin n) fin (d::rp)=some ⟨c',k' n,ks' n⟩:=fun {rp c k ks d c' k' ks'} h1 h2 n=>by
    show om (ctxW P N lab k0 Gn top (jmpW P N lab k0 Gn r top fin n) fin rp) none _=_
    rw[h1 n,zan];exact h2 n
  refine zmm (J:=jmpW P N lab k0 Gn r top fin) (Cx:=fun rp c k ks=>∀ n,ctxW P N lab k0 Gn top (jmpW P N lab k0 Gn r top fin n) fin rp=some ⟨c,k n,ks n⟩) hm hrec hL h5
    ⟨fun h=>hkid h fun _=>rfl,fun h=>hkid h fun _=>rfl,fun h=>hkid h fun _=>rfl,fun h=>hkid h fun _=>rfl,fun h=>hkid h fun _=>rfl,fun h=>hkid h fun _=>rfl,fun h=>hkid h fun _=>rfl⟩ ?_
    (fun rp g ps as body k ks hat n T H φ a w hs h=>zuR hm hgor hrec hL h5 hk hφ0 hpl hG hGn hat n hs h) c rp k ks hat n T H φ a w hs h
  intro q c k ks hat m T H φ a w hs h
  cases hl:lab q with
  | none =>
    have h':∀ x ∈ om (lab q) (zab 240) _,x ∈ L:=h
    rw[hl] at h';exact (zaq hL h').elim
  | some live =>
    obtain⟨ds,h1,h2⟩:=zmk hk hφ0 hL hl hs (pre:=[]) h
    cases m with
    | zero=>exact (zaq hL h1).elim
    | succ m =>
      refine⟨m,rfl,?_⟩
      by_cases h9:∃ rp,q=9::rp
      · obtain⟨rp,rfl⟩:=h9
        exfalso
        have:=hat 0
        have h9:om (ctxW P N lab k0 Gn top (jmpW P N lab k0 Gn r top fin 0) fin rp) none (fun x=>kidW P N lab k0 Gn (jmpW P N lab k0 Gn r top fin 0) fin rp 9 x)=some ⟨c,k 0,ks 0⟩:=this
        obtain⟨x,_,h9⟩:=za1 h9
        unfold kidW at h9
        split at h9<;>simp_all
      · have h3:∀ x ∈ om (ctxW P N lab k0 Gn top (jmpW P N lab k0 Gn r top fin m) fin q) (zab 247) (fun x=>om (lab q) (zab 247) fun live=>zgd P live ds fun T H=>(zbm P N lab k0 Gn (jmpW P N lab k0 Gn r top fin m) fin q x.c x.k x.ks).run r T H),x ∈ L:=by
          have e:jmpW P N lab k0 Gn r top fin (m+1) q ds=om (ctxW P N lab k0 Gn top (jmpW P N lab k0 Gn r top fin m) fin q) (zab 247) (fun x=>om (lab q) (zab 247) fun live=>zgd P live ds fun T H=>(zbm P N lab k0 Gn (jmpW P N lab k0 Gn r top fin m) fin q x.c x.k x.ks).run r T H):=by
            show lblW P N lab k0 Gn r top fin (jmpW P N lab k0 Gn r top fin m) q ds=_
            unfold lblW
            split
            · rename_i rp;exact absurd ⟨rp,rfl⟩ h9
            · rfl
          rw[← e];exact h1
        rw[hat m,zan,hl,zan] at h3
        obtain⟨T',H',φ',g1,_,_,g4⟩:=h2 _ h3
        exact⟨T',H',φ',g1,g4⟩
end main
end Go.Eng
