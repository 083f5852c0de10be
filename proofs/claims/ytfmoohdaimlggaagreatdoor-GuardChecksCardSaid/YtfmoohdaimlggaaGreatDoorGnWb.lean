/- A part of the proof that the evaluator in GnC, and the driver in GnZ, answer as the model does; no conditions. -/
import Derived.Test.YtfmoohdaimlggaaGreatDoorGnWa
import Derived.Test.YtfmoohdaimlggaaGreatDoorGnZb
namespace Go.Eng
open Go.RowKit
variable {P:Program} {w0:World} {H Hb:Hp} {φ φ0 φ':Ph} {w:World} {N:Nat} {T:Fr} {a:Act} {r:Rec}
theorem HR.reB(hr:HR P w0 H φ w){b x:Nat}{B:AB}(hx:φ b=some x)(hk:B.kind=(hget H b).kind)(hk1:(hget H b).kind=1)(hl:H.lim≤b)(hB:∀ o,w.heap[x]?=some o→BRel P φ x B o):HR P w0 (hset H b B) φ w∧EX H φ (hset H b B) φ:=by
  have hbn:=(hr.blk b x hx).1
  have hn:=hr.n
  have hget':∀ b',b'<32768→hget (hset H b B) b'=if b=b' then B else hget H b':=fun b' h=>zaM (by omega) h B
  have hkind:∀ b',b'<32768→(hget (hset H b B) b').kind=(hget H b').kind:=fun b' h=>by
    rw[hget' b' h]
    by_cases e:b=b'
    · subst e;rw[if_pos rfl,hk]
    · rw[if_neg e]
  refine⟨⟨fun b' y hb=>?_,fun b1 b2 y h1 h2 k1 k2=>?_,hr.n,hr.lim,hr.below,hr.gl,hr.op,fun y C hy=>⟨(hr.fz y C hy).1,fun b' hb' hl'=>?_⟩,fun b' y hb' hk'=>?_,hr.fo⟩,⟨Le.refl φ,fun b' y h h'=>(by rw[h] at h';cases h'),Nat.le_refl _,rfl,fun b' h1 h2=>?_,fun b' h1 h2 h3=>?_,fun b' h1 h2 h3=>?_,fun y C hy=>.inl hy⟩⟩
  · obtain⟨h1,h2,o,h3,h4⟩:=hr.blk b' y hb
    refine⟨h1,h2,o,h3,?_⟩
    rw[hget' b' (by omega)]
    by_cases e:b=b'
    · subst e
      rw[if_pos rfl]
      rw[hx] at hb;cases hb
      exact hB o h3
    · rw[if_neg e];exact h4
  · have l1:=(hr.blk b1 y h1).1
    have l2:=(hr.blk b2 y h2).1
    rw[hkind b1 (by omega)] at k1
    rw[hkind b2 (by omega)] at k2
    exact hr.inj b1 b2 y h1 h2 k1 k2
  · have l1:=(hr.blk b' y hb').1
    rw[hkind b' (by omega)]
    exact (hr.fz y C hy).2 b' hb' hl'
  · have l1:=(hr.blk b' y hb').1
    rw[hkind b' (by omega)] at hk'
    rw[hget' b' (by omega)]
    by_cases e:b=b'
    · subst e;omega
    · rw[if_neg e];exact hr.tl b' y hb' hk'
  · rw[hget' b' h2,if_neg (by omega)]
  · rw[hget' b' (by omega),if_neg (fun e=>by subst e;rw[hx] at h2;cases h2)]
  · rw[hkind b' h2];exact h3
theorem ztt{v:AV}{val:Value}(h:znQ v=true)(hv:VR φ v val):val=.slice none 0 0:=by
  rcases zbw.1 h with h | h
  · exact hv.isNil h
  · obtain⟨h1,h2⟩:=zaw.1 h
    cases (hv.of_frz (zaa.1 h1)).of_sl (zaa.1 h1) with
    | nil _ _=>rfl
    | empty ad cap g1 g2 g3=>have:=zaa.1 h2;omega
    | sl x off cap C l g1=>have:=zaa.1 h2;omega
theorem zym{m:Nat}{v v':AV}{H':Hp}{val:Value}(h:ownN m v H=some (v',H'))(hr:HR P w0 H φ w)(hv:VR φ v val):HR P w0 H' φ w∧EX H φ H' φ∧VR φ v' val:=by
  unfold ownN at h
  cases h25:nbeq v.tag 25
  · rw[h25,zai] at h
    obtain⟨hn,h⟩:=zas h
    have hn:=zah.1 hn
    cases hi:znQ v
    · rw[hi,zai] at h
      obtain⟨h11,h⟩:=zas h
      obtain⟨hr0,h⟩:=zas h
      obtain⟨hs1,h⟩:=zas h
      cases h
      obtain⟨x,cap,e1,_,_,_,e2,_⟩:=hv.of_sl (zaa.1 h11)
      rw[zaa.1 hs1] at e2
      have e3:cap=0:=e2 rfl
      rw[zaa.1 hr0,e3] at e1
      obtain⟨g1,g2⟩:=hr.early hn ⟨6,m,0,[]⟩
      exact⟨g1,g2,by rw[e1];exact .owne _ _ _ _⟩
    · rw[hi,zag] at h
      cases h
      obtain⟨g1,g2⟩:=hr.early hn ⟨6,m,0,[]⟩
      exact⟨g1,g2,by rw[ztt hi hv];exact .ownn _ _ _⟩
  · rw[h25,zag] at h
    cases h
    exact⟨hr,EX.refl _ _,hv⟩
theorem zl5{mode:Nat}{v v':AV}{H':Hp}{val:Value}(h:nrmV P mode v H=some (v',H'))(hr:HR P w0 H φ w)(hv:VR φ v val):∃ φ',HR P w0 H' φ' w∧EX H φ H' φ'∧VR φ' v' val∧φ'.f=φ.f:=by
  cases mode with
  | zero =>
    have h':some (v,H)=some (v',H'):=h
    cases h'
    exact⟨φ,hr,EX.refl _ _,hv,rfl⟩
  | succ m =>
    have h':bi (nble 1000 (Nat.succ m)) (frzV P (Nat.sub (Nat.succ m) 1000) v H) (ownN m v H)=some (v',H'):=h
    cases hb:nble 1000 (Nat.succ m)
    · rw[hb,zai] at h'
      obtain⟨g1,g2,g3⟩:=zym h' hr hv
      exact⟨φ,g1,g2,g3,rfl⟩
    · rw[hb,zag] at h'
      obtain⟨φ1,f1,g1⟩:=zhy h' hr hv
      exact⟨φ1,f1.hr,f1.ex,g1 φ1 rfl,f1.f⟩
theorem zuK(l:List Nat):∀ {vs vs':List AV} {H H':Hp} {φ:Ph} {vals:List Value},zkK P l vs H=some (vs',H')→HR P w0 H φ w→VRs φ vs vals→∃ φ',HR P w0 H' φ' w∧EX H φ H' φ'∧VRs φ' vs' vals:=by
  induction l with
  | nil =>
    intro vs vs' H H' φ vals h hr hv
    cases vs with
    | nil =>
      have h':some (([]:List AV),H)=some (vs',H'):=h
      cases h'
      exact⟨φ,hr,EX.refl _ _,hv⟩
    | cons v vs=>cases h
  | cons m l ih =>
    intro vs vs' H H' φ vals h hr hv
    cases vs with
    | nil=>cases h
    | cons v vs =>
      have h':om (nrmV P m v H) none (fun x=>om (zkK P l vs x.2) none fun y=>some (x.1::y.1,y.2))=some (vs',H'):=h
      obtain⟨⟨a1,H1⟩,h1,h'⟩:=za1 h'
      obtain⟨⟨a2,H2⟩,h2,h'⟩:=za1 h'
      cases h'
      cases hv with
      | cons g1 g2 =>
        obtain⟨φ1,k1,k2,k3,_⟩:=zl5 h1 hr g1
        obtain⟨φ2,k4,k5,k6⟩:=ih h2 k1 (g2.mono k2.keep)
        exact⟨φ2,k4,k2.trans k5,.cons (k3.mono k5.keep) k6⟩
theorem VRs.set{cs:List AV}{vs:List Value}(h:VRs φ cs vs){i:Nat}{v:AV}{val:Value}(hv:VR φ v val)(hi:vs[i]?=some val):VRs φ (cs.set i v) vs:=by
  induction cs generalizing vs i with
  | nil=>cases h;simp at hi
  | cons c cs ih =>
    cases h with
    | cons h1 h2 =>
      cases i with
      | zero=>simp at hi;subst hi;exact .cons hv h2
      | succ i=>exact .cons h1 (ih h2 (by simpa using hi))
theorem zyn{x:Nat × Nat × Nat}{y:Fr × Hp}{H0:Hp}(h:nrw1 P x T H=some y)(hs:St P w0 N H0 φ0 T H φ a w):∃ φ',St P w0 N H0 φ0 y.1 y.2 φ' a w∧(∀ x C,φ.fz x=some C→φ'.fz x=some C)∧φ'.f=φ.f:=by
  obtain⟨t,j,mode⟩:=x
  unfold nrw1 at h
  obtain⟨ht,h⟩:=zas h
  have ht:=zah.1 ht
  cases j with
  | zero =>
    have h':om (nrmV P mode ((getB t).run T) H) none (fun y=>some ((setB t).run T y.1,y.2))=some y:=h
    obtain⟨⟨v,H1⟩,h1,h'⟩:=za1 h'
    cases h'
    obtain⟨φ1,k1,k2,k3,kf⟩:=zl5 h1 hs.hr (hs.tr.val t)
    have htr:=hs.tr.mono k2.keep
    refine⟨φ1,⟨⟨htr.size,?_,by rw[zb1];exact htr.defers,htr.gl⟩,k1,hs.ex.trans k2⟩,k2.keep.fz,kf⟩
    intro t'
    rw[zbr]
    by_cases e:t=t'
    · subst e;rw[if_pos ⟨rfl,ht⟩];exact k3
    · rw[if_neg (fun h=>e h.1)];exact htr.val t'
  | succ j =>
    have h':(fun a:AV=>bi (nbeq a.tag 10) (bi (nbeq (hget H a.p).kind 1) (bi (nble H.lim a.p) (bi (nble (Nat.succ (Nat.add a.q j)) (lenL (hget H a.p).cs)) (om (nrmV P mode (nthL (hget H a.p).cs (Nat.add a.q j)) H) none fun y =>
      bi (bi (nbeq (hget y.2 a.p).kind 1) (bi (nble y.2.lim a.p) (nble (Nat.succ (Nat.add a.q j)) (lenL (hget y.2 a.p).cs)) false) false) (bi (za6 y.1) (some (T,hset y.2 a.p ⟨1,(hget y.2 a.p).t,(hget y.2 a.p).e,putN y.1 (Nat.add a.q j) (hget y.2 a.p).cs⟩)) none) none) none) none) none) none) ((getB t).run T)=some y:=h
    generalize hav:(getB t).run T=av at h'
    simp only[] at h'
    obtain⟨h10,h'⟩:=zas h'
    obtain⟨hk1,h'⟩:=zas h'
    obtain⟨hl,h'⟩:=zas h'
    obtain⟨hj,h'⟩:=zas h'
    obtain⟨⟨v,H1⟩,h1,h'⟩:=za1 h'
    obtain⟨hc,h'⟩:=zas h'
    obtain⟨hok,h'⟩:=zas h'
    cases h'
    obtain⟨hc1,hc⟩:=zaw.1 hc
    obtain⟨hc2,hc3⟩:=zaw.1 hc
    have hvt:=hs.tr.val t
    rw[hav] at hvt
    obtain⟨x,_,hx⟩:=hvt.of_ptr (zaa.1 h10)
    obtain⟨_,_,o,ho,hB⟩:=hs.hr.blk _ _ hx
    obtain⟨l,rest,ty,rfl,hl1,hl2,_⟩:=hB.cells (zaa.1 hk1)
    have hj:=zah.1 hj
    rw[zaz] at hj
    obtain⟨val,hval,hvr⟩:=hl1.get (List.getElem?_eq_getElem (show Nat.add av.q j<(hget H av.p).cs.length from hj))
    have hnth:nthL (hget H av.p).cs (Nat.add av.q j)=(hget H av.p).cs[Nat.add av.q j]:=by
      rw[zcG,List.getElem?_eq_getElem (show Nat.add av.q j<(hget H av.p).cs.length from hj)];rfl
    rw[hnth] at h1
    obtain⟨φ1,k1,k2,k3,kf⟩:=zl5 h1 hs.hr hvr
    have hx1:=(k2.keep _ _ hx).1
    obtain⟨_,_,o1,ho1,hB1⟩:=k1.blk _ _ hx1
    have hc1:=zaa.1 hc1
    obtain⟨l1,rest1,ty1,e1,m1,m2,m3,m4⟩:=hB1.cells hc1
    rw[ho] at ho1
    cases ho1
    have e2:=congrArg (fun o=>match o with | Obj.cells c _ _=>c.toList | _=>[]) e1
    simp only[] at e2
    have hc3:=zah.1 hc3
    rw[zaz] at hc3
    have hval1:l1[Nat.add av.q j]?=some val:=by
      have g1:(l++rest)[Nat.add av.q j]?=some val:=by rw[List.getElem?_append_left (by rw[← hl1.length];exact hj)];exact hval
      rw[show l++rest=l1++rest1 by simpa using e2,List.getElem?_append_left (by rw[← m1.length];exact hc3)] at g1
      exact g1
    obtain⟨r1,r2⟩:=k1.reB (B:=⟨1,(hget H1 av.p).t,(hget H1 av.p).e,putN v (Nat.add av.q j) (hget H1 av.p).cs⟩) hx1 hc1.symm hc1 (zah.1 hc2) (fun o ho'=>by
      rw[ho] at ho'
      cases ho'
      refine⟨fun _=>⟨l1,rest1,ty1,e1,?_,?_,m3,m4⟩,(fun e=>by cases e),(fun e=>by cases e),(fun e=>by have e':4≤1:=e;omega)⟩
      · show VRs φ1 (putN v (Nat.add av.q j) (hget H1 av.p).cs) l1
        rw[zfG];exact m1.set k3 hval1
      · intro c hc
        have hc:c ∈ putN v (Nat.add av.q j) (hget H1 av.p).cs:=hc
        rw[zfG] at hc
        rcases List.mem_or_eq_of_mem_set hc with h | rfl
        · exact m2 c h
        · exact hok)
    exact⟨φ1,⟨hs.tr.mono k2.keep,r1,(hs.ex.trans k2).trans r2⟩,k2.keep.fz,kf⟩
theorem zyo{H0:Hp}:∀ (l:List (Nat × Nat × Nat)) (T:Fr) (H:Hp) (φ:Ph) (x:Fr × Hp),nrmS P l T H=some x→St P w0 N H0 φ0 T H φ a w→∃ φ',St P w0 N H0 φ0 x.1 x.2 φ' a w∧(∀ x C,φ.fz x=some C→φ'.fz x=some C)∧φ'.f=φ.f:=by
  intro l
  induction l with
  | nil =>
    intro T H φ x h hs
    have h':some (T,H)=some x:=h
    cases h'
    exact⟨φ,hs,fun _ _ h=>h,rfl⟩
  | cons tm l ih =>
    intro T H φ x h hs
    obtain⟨y,h1,h2⟩:=za1 (show om (nrw1 P tm T H) none (fun x=>nrmS P l x.1 x.2)=some x from h)
    obtain⟨φ',hs',hz,hf⟩:=zyn h1 hs
    obtain⟨φ2,hs2,hz2,hf2⟩:=ih _ _ φ' x h2 hs'
    exact⟨φ2,hs2,fun x C h=>hz2 x C (hz x C h),hf2.trans hf⟩
theorem ztu(n:Nat){lim:Nat}:∀ {todo:List AV} {seen out:List Nat},ze8 H lim n todo seen=some out→seen <+: out:=by
  induction n with
  | zero =>
    intro todo seen out h
    cases todo with
    | nil=>have h':some seen=some out:=h;cases h';exact List.prefix_rfl
    | cons v t=>cases h
  | succ n ih =>
    intro todo seen out h
    cases todo with
    | nil=>have h':some seen=some out:=h;cases h';exact List.prefix_rfl
    | cons v t =>
      have h':bi (bi (isPB v) true (bi (nbeq v.tag 12) true (nbeq v.tag 25)))
        ((fun b:Nat=>bi (nble (Nat.succ b) lim) (ze8 H lim n t seen) (bi (memQ b seen) (ze8 H lim n t seen) (bi (bi (nbeq v.tag 25) (nb (nbeq (hget H b).kind 6)) false) none (ze8 H lim n (appL (zmN (hget H b)) t) (appL seen [b]))))) (bi (nbeq v.tag 25) v.q v.p))
        (bi (isCB v) (ze8 H lim n (appL v.cs t) seen) (ze8 H lim n t seen))=some out:=h
      cases hc:bi (isPB v) true (bi (nbeq v.tag 12) true (nbeq v.tag 25))
      · rw[hc,zai] at h'
        cases hcb:isCB v
        · rw[hcb] at h';exact ih h'
        · rw[hcb] at h';exact ih h'
      · rw[hc,zag] at h'
        generalize bi (nbeq v.tag 25) v.q v.p=b at h'
        simp only[] at h'
        cases h1:nble (Nat.succ b) lim
        · rw[h1,zai] at h'
          cases h2:memQ b seen
          · rw[h2,zai] at h'
            have h':bi (bi (nbeq v.tag 25) (nb (nbeq (hget H b).kind 6)) false) none (ze8 H lim n (appL (zmN (hget H b)) t) (appL seen [b]))=some out:=h'
            cases h3:bi (nbeq v.tag 25) (nb (nbeq (hget H b).kind 6)) false
            case true=>rw[h3] at h';cases h'
            rw[h3,zai] at h'
            have:=ih h'
            rw[zaV] at this
            exact (List.prefix_append seen [b]).trans this
          · rw[h2] at h';exact ih h'
        · rw[h1] at h';exact ih h'
theorem zkN{lim k:Nat}{vs ms:List AV}{y:Pk}(h:zhU lim k vs ms H=some y):∃ seen,zfb lim k <+: seen∧zjq lim vs ms H seen=some y∧ze8 H lim 400 (appL vs (ztn H (zfb lim k))) (appL (zfb lim k) (mpL (fun m:AV=>m.p) ms))=some seen:=by
  unfold zhU at h
  obtain⟨seen,h1,h2⟩:=za1 h
  have:=ztu 400 h1
  rw[zaV] at this
  exact⟨seen,(List.prefix_append _ _).trans this,h2,h1⟩
theorem zuL:∀ (l:List Nat) {vs:List AV} {T T':Fr},zkL l vs T=some T'→(∀ (i t:Nat),l[i]?=some t→∃ v:AV,vs[i]?=some v∧VR φ v (a.tmps.getD t undef))→(∀ t,VR φ ((getB t).run T) (a.tmps.getD t undef))→(∀ t,VR φ ((getB t).run T') (a.tmps.getD t undef))∧zaK T'=zaK T:=by
  intro l
  induction l with
  | nil =>
    intro vs T T' h _ hv
    cases vs with
    | nil=>have h':some T=some T':=h;cases h';exact⟨hv,rfl⟩
    | cons v vs=>cases h
  | cons t l ih =>
    intro vs T T' h hl hv
    cases vs with
    | nil=>cases h
    | cons v vs =>
      have h':bi (nble (Nat.succ t) 511) (zkL l vs ((setB t).run T v)) none=some T':=h
      obtain⟨ht,h'⟩:=zas h'
      have ht:=zah.1 ht
      obtain⟨v',e,hv0⟩:=hl 0 t rfl
      simp at e;subst e
      obtain⟨g1,g2⟩:=ih h' (fun i t' hi=>by
        obtain⟨v',e,h⟩:=hl (i+1) t' (by simpa using hi)
        exact⟨v',by simpa using e,h⟩) (fun t'=>by
        rw[zbr]
        by_cases e:t=t'
        · subst e;rw[if_pos ⟨rfl,ht⟩];exact hv0
        · rw[if_neg (fun h=>e h.1)];exact hv t')
      exact⟨g1,g2.trans (zb1 _ _ _)⟩
theorem zuM:∀ (ms:List AV) (T:Fr),(∀ t,(getB t).run (zhW ms T)=(getB t).run T)∧zaK (zhW ms T)=mpL (fun m:AV=>mk1 3 m.p) ms++zaK T:=by
  intro ms
  induction ms with
  | nil=>exact fun T=>⟨fun _=>rfl,rfl⟩
  | cons m ms ih =>
    intro T
    obtain⟨h1,h2⟩:=ih T
    refine⟨fun t=>?_,?_⟩
    · show (getB t).run (zcF (zhW ms T) m.p)=_
      rw[zfR];exact h1 t
    · show zaK (zcF (zhW ms T) m.p)=_
      rw[zlq,h2];rfl
theorem z3w{g:Nat→Option Nat}:∀ {ms ms':List AV},rnL (fun m:AV=>om (g m.p) none fun p=>some (mk1 3 p)) ms=some ms'→mpL (fun m:AV=>mk1 3 m.p) ms'=ms':=by
  intro ms
  induction ms with
  | nil=>intro ms' h;cases h;rfl
  | cons m ms ih =>
    intro ms' h
    obtain⟨x,y,h1,h2,rfl⟩:=zge h
    obtain⟨p,_,h1⟩:=za1 h1
    cases h1
    show mk1 3 p::mpL _ y=_
    rw[ih h2]
theorem zuN{l:List Nat}(h:∀ t,VR φ ((getB t).run T) (a.tmps.getD t undef)):VRs φ (zqX l T) (l.map fun t=>a.tmps.getD t undef):=by
  induction l with
  | nil=>exact .nil
  | cons t l ih=>exact .cons (h t) ih
theorem zmk{lab:LabW}{k:Nat}(hk:P.globals.size+k≤32767)(hφ0:∀ b x,φ0 b=some x→b<P.globals.size+k){L:RL}(hL:AllOk L){jmp:Jmp}{q:List Nat}{pre:List AV}{live:LW}(hl:lab q=some live)
    (hs:St P w0 N (Hk P k) φ0 T H φ a w) (h:∀ x ∈ zfc P lab k jmp q pre T H,x ∈ L) :
    ∃ ds,(∀ x ∈ jmp q (appL pre ds),x ∈ L)∧∀ (c:Fr→Hp→RL),(∀ x ∈ zgd P live ds c,x ∈ L)→∃ T' H' φ',St P w0 N (Hk P k) φ0 T' H' φ' a w∧(∀ x C,φ.fz x=some C→φ'.fz x=some C)∧(∀ b x,φ' b=some x→b<P.globals.size ∨ ∃ c,P.globals.size≤c∧φ c=some x)∧∀ x ∈ c T' H',x ∈ L:=by
  unfold zfc at h
  rw[hl,zan] at h
  cases hz:nrmS P live.nrm T H with
  | none=>rw[hz] at h;exact (zaq hL h).elim
  | some xz =>
  rw[hz,zan] at h
  obtain⟨φz,hs,hfz,hff⟩:=zyo live.nrm T H φ xz hz hs
  obtain⟨T1,H1⟩:=xz
  simp only[] at h hs
  cases hp:zhU P.globals.size k (zqX live.slots T1) (zaK T1) H1 with
  | none=>rw[hp] at h;exact (zaq hL h).elim
  | some y =>
  rw[hp,zan] at h
  cases hm:ze7 H1 y.seen
  · rw[hm] at h;exact (zaq hL h).elim
  rw[hm,zag] at h
  refine⟨pkDs y,h,fun c hc=>?_⟩
  obtain⟨seen,hpre,hpk,_⟩:=zkN hp
  have hlim:H1.lim=P.globals.size:=hs.ex.lim.trans Hk_n.2
  obtain⟨g1,g2,g3,_,_⟩:=zl4 hs.hr hlim hpk hm
  have g4:=zph hk hs.hr hs.ex hpk hm hpre hφ0
  have hc':∀ x ∈ om (zkL live.slots y.vs zdU) (zab 242) (fun T=>c (zhW y.ms T) (zbR (mpL encB y.bs) (zbk P))),x ∈ L:=hc
  cases hst:zkL live.slots y.vs zdU with
  | none=>rw[hst] at hc';exact (zaq hL hc').elim
  | some T2 =>
  rw[hst,zan] at hc'
  have hvs:=g2 _ (zuN (l:=live.slots) hs.tr.val)
  have hms:rnL (fun m:AV=>om (rnI P.globals.size seen m.p) none fun p=>some (mk1 3 p)) (zaK T1)=some y.ms:=(zf3 hpk).2.2.2.1
  obtain⟨e1,e2⟩:=zuL (φ:=pkPh P φz seen) (a:=a) live.slots hst (fun i t hi=>by
    have hget:=hvs
    have h1:(live.slots.map fun t=>a.tmps.getD t undef)[i]?=some (a.tmps.getD t undef):=by rw[List.getElem?_map,hi];rfl
    have hlen:=hvs.length
    have hlt:i<y.vs.length:=by rw[hlen,List.length_map];exact (List.getElem?_eq_some_iff.1 hi).1
    obtain⟨v,k1,k2⟩:=hvs.get (List.getElem?_eq_getElem hlt)
    rw[h1] at k1
    cases k1
    exact⟨_,List.getElem?_eq_getElem hlt,k2⟩) (fun t=>by rw[zf5];exact .unk _ _ _ _ _ _)
  obtain⟨e3,e4⟩:=zuM y.ms T2
  refine⟨zhW y.ms T2,_,pkPh P φz seen,⟨⟨hs.tr.size,fun t=>by rw[e3];exact e1 t,?_,g1.gl⟩,g1,g4⟩,hfz,fun b x hb=>?_,hc'⟩
  · rw[e4,e2,z3w hms,show zaK zdU=[] from rfl,List.append_nil]
    exact g3 _ hs.tr.defers
  · rcases zdT hb with⟨h4,_⟩ | ⟨i,d,rfl,h4,h5⟩
    · exact .inl h4
    · exact .inr ⟨d,((ziG (zf3 hpk).1).2.1 d (List.mem_of_getElem? h4)).1,by rw[← hff];exact h5⟩
end Go.Eng
namespace Go.Eng
open Go.RowKit
variable {P:Program} {w0:World} {H Hb:Hp} {φ φ0 φ':Ph} {w:World} {N:Nat} {T:Fr} {a:Act} {r:Rec}
def PlainOp(φ:Ph):Prop:=∀ n v,φ.op n v→n=29 ∨ n=30 ∨ n=31
def Ph.reop(φ:Ph)(op:Nat→Value→Prop):Ph:=⟨φ.f,φ.k,op,φ.fz,φ.tl⟩
section reop
variable {op:Nat→Value→Prop} (hp:PlainOp φ)
include hp
mutual
theorem VR.reop{a:AV}{v:Value}(h:VR φ a v):VR (φ.reop op) a v:=by
  cases h with
  | int c p r s cs h1 h2=>exact .int c p r s cs h1 h2
  | bool b r s cs=>exact .bool b r s cs
  | str l r s cs=>exact .str l r s cs
  | ptr b x off r s cs h=>exact .ptr b x off r s cs h
  | sl b x off len cap s cs h h1 h2 h3 h4=>exact .sl b x off len cap s cs h h1 h2 h3 h4
  | map b x q r s cs h=>exact .map b x q r s cs h
  | fn f n r s cs first cap h h1=>exact .fn f n r s cs first cap (VRs.reop h) h1
  | yld b x q r s cs h=>exact .yld b x q r s cs h
  | agg p q r s cs l h h1=>exact .agg p q r s cs l (VRs.reop h) h1
  | tup p q r s cs l h=>exact .tup p q r s cs l (VRs.reop h)
  | nilp q r s cs=>exact .nilp q r s cs
  | nils q r s cs=>exact .nils q r s cs
  | nilm q r s cs=>exact .nilm q r s cs
  | nilf q r s cs=>exact .nilf q r s cs
  | nili q r s cs=>exact .nili q r s cs
  | unk p q r s cs v=>exact .unk p q r s cs v
  | ud p q r s cs=>exact .ud p q r s cs
  | neg p q r s cs n h=>exact .neg p q r s cs n h
  | pos p q r s cs n h=>exact .pos p q r s cs n h
  | opq p q r s cs _ h1 h2 h3=>exact .opq p q r s cs _ ⟨h1.1,h1.2.1,h1.2.2.1,fun h=>by rcases hp _ _ (h1.2.2.2 h) with h | h | h<;>omega⟩ h2 h3
  | frz p q r s cs v h=>exact .frz p q r s cs v h
  | fptr p q r s cs v h=>exact .fptr p q r s cs v h
  | own b x r s cs h h1 h2=>exact VR.own (φ:=φ.reop op) b x r s cs h h1 h2
  | ownn b s cs=>exact .ownn b s cs
  | owne b s cs a=>exact .owne b s cs a
  | optr b x q r s cs h h1=>exact .optr b x q r s cs h h1
theorem VRs.reop{as:List AV}{vs:List Value}(h:VRs φ as vs):VRs (φ.reop op) as vs:=by
  have _:=hp
  cases h with
  | nil=>exact .nil
  | cons h1 h2=>exact .cons (VR.reop h1) (VRs.reop h2)
end
theorem Ents.reop{kt ck:Nat}{as:List AV}{es:List MapEntry}(h:Ents φ kt ck as es):Ents (φ.reop op) kt ck as es:=by
  induction h with
  | nil=>exact .nil
  | cons h1 h2 h3 h4 _ ih=>exact .cons (VR.reop hp h1) h2 (VR.reop hp h3) h4 ih
theorem BRel.reop{x:Nat}{B:AB}{o:Obj}(h:BRel P φ x B o):BRel P (φ.reop op) x B o where
  cells hk:=by
    obtain⟨l,rest,t,h1,h2,h3,h4,h5⟩:=h.cells hk
    exact⟨l,rest,t,h1,VRs.reop hp h2,h3,h4,fun he=>by
      obtain⟨h6,h7⟩:=h5 he
      rcases hp _ _ h6 with h | h | h<;>omega⟩
  map hk:=by
    obtain⟨es,h1,h2,h3⟩:=h.map hk
    exact⟨es,h1,Ents.reop hp h2,h3⟩
  walk hk:=by
    obtain⟨m,seen,mr,h1,h2,h3⟩:=h.walk hk
    exact⟨m,seen,mr,h1,VR.reop hp h2,h3⟩
  ext hk:=by
    rcases h.ext hk with h | ⟨h,rec,f,rp,fn,top,g,T,e,h1⟩ | ⟨h,h1⟩
    · exact .inl h
    · exact .inr (.inl ⟨h,rec,f,rp,fn,top,g,T,e,⟨h1.hfn,h1.htop,h1.code,h1.cs,h1.mks,h1.size,fun t=>VR.reop hp (h1.val t),h1.st,h1.pend⟩⟩)
    · exact .inr (.inr ⟨h,h1⟩)
end reop
def rbOp(X:Nat→Prop)(φ:Ph)(n:Nat)(v:Value):Prop :=
  (n=31∧∃ (x:Nat) (C:List Value),v=.int .i64 (x:Int)∧φ.fz x=some C) ∨ (n=29∧∃ x:Nat,v=.agg #[.int .i64 (x:Int),.int .i64 (φ.k x:Int)]) ∨ (n=30∧∃ x:Nat,X x∧v=.int .i64 (x:Int))
theorem znU{X:Nat→Prop}:PlainOp (φ.reop (rbOp X φ)):=fun n v h=>by
  rcases h with h | h | h
  · exact .inr (.inr h.1)
  · exact .inl h.1
  · exact .inr (.inl h.1)
theorem zkO{X:Nat→Prop}{φ1:Ph}(h:φ1.op=rbOp X φ){x:Nat}:exB φ1 x ↔ X x:=by
  unfold exB
  rw[h]
  constructor
  · rintro (⟨h,_⟩ | ⟨h,_⟩ | ⟨_,y,hy,e⟩)
    · omega
    · omega
    · injection e with _ e
      rw[Int.ofNat.inj e];exact hy
  · exact fun h=>.inr (.inr ⟨rfl,x,h,rfl⟩)
theorem rb_k{X:Nat→Prop}{φ1:Ph}(h:φ1.op=rbOp X φ)(hk:KK w φ1){x:Nat}(hx:x<w.heap.size):φ1.k x=φ.k x:=by
  have h1:=hk x hx
  rw[h] at h1
  rcases h1 with⟨h1,_⟩ | ⟨_,y,e⟩ | ⟨h1,_⟩
  · omega
  · injection e with e
    have e1:=congrArg (fun a:Array Value=>a[0]?) e
    have e2:=congrArg (fun a:Array Value=>a[1]?) e
    simp at e1 e2
    have e3:x=y:=by omega
    subst e3
    omega
  · omega
theorem rebase{X:Nat→Prop}(hp:PlainOp φ)(hr:HR P w0 H φ w)(hG:P.globals.size≤w0.heap.size)(hX:∀ b x,φ b=some x→H.lim≤b→X x)(hX2:∀ x,X x→OwnB w0 φ x):HR P w H (φ.reop (rbOp X φ)) w:=by
  refine⟨fun b x hb=>?_,hr.inj,hr.n,hr.lim,BelowX.refl _ _,hr.gl,⟨fun t v _ h=>?_,Nat.le_trans hr.op.2.1 hr.below.size,fun x _=>.inr (.inl ⟨rfl,x,rfl⟩)⟩,hr.fz,hr.tl,fun x C hx=>.inr (.inl ⟨rfl,x,C,rfl,hx⟩)⟩
  · obtain⟨h1,_,o,h3,h4⟩:=hr.blk b x hb
    exact⟨h1,fun hl=>.inr ((zkO (φ:=φ) rfl).2 (hX b x hb hl)),o,h3,BRel.reop hp h4⟩
  · rcases h with h | h | h<;>have:=h.1<;>omega
theorem unbase{X:Nat→Prop}{H':Hp}{φr:Ph}{w':World}(hr:HR P w0 H φ w)(hX2:∀ x,X x→OwnB w0 φ x)(h':HR P w H' φr w')(hex:EX H (φ.reop (rbOp X φ)) H' φr) :
    HR P w0 H' (φr.reop φ.op) w'∧EX H φ H' (φr.reop φ.op):=by
  have hop:φr.op=rbOp X φ:=hex.keep.op
  have hpl:PlainOp φr:=fun n v h=>by rw[hop] at h;exact znU (φ:=φ) n v h
  have hsz:=hr.below.size
  have hown:∀ x,OwnB w φr x→OwnB w0 φ x:=fun x h=>by
    rcases h with h | h
    · exact .inl (by omega)
    · exact hX2 x ((zkO hop).1 h)
  refine⟨⟨fun b x hb=>?_,h'.inj,h'.n,h'.lim,?_,h'.gl,⟨hr.op.1,hr.op.2.1,fun x hx=>?_⟩,h'.fz,h'.tl,fun x C hx=>?_⟩,⟨⟨hex.keep.map,rfl,hex.keep.fz,hex.keep.tl⟩,hex.fresh,hex.n,hex.lim,hex.low,hex.other,hex.loop,hex.fzn⟩⟩
  · obtain⟨h1,h2,o,h3,h4⟩:=h'.blk b x hb
    exact⟨h1,fun hl=>hown x (h2 hl),o,h3,BRel.reop hpl h4⟩
  · have hb:=h'.below
    refine⟨hb.os.trans hr.below.os,hb.tape.trans hr.below.tape,hb.output.trans hr.below.output,Nat.le_trans hsz hb.size,fun k hk hx=>?_⟩
    rw[hb.block k (by omega) (fun h=>?_)]
    · exact hr.below.block k hk hx
    · rcases hX2 k ((zkO hop).1 h) with h | h
      · omega
      · exact hx h
  · have h1:=hr.op.2.2 x hx
    have:φr.k x=φ.k x:=rb_k hop h'.op.2.2 (by omega)
    show φ.op 29 (.agg #[.int .i64 (x:Int),.int .i64 (φr.k x:Int)])
    rw[this];exact h1
  · rcases h'.fo x C hx with h | h
    · exact .inl (hown x h)
    · rw[hop] at h
      rcases h with⟨_,y,D,e,h⟩ | ⟨h,_⟩ | ⟨h,_⟩
      · injection e with _ e
        have e:=Int.ofNat.inj e
        subst e
        exact hr.fo x D h
      · omega
      · omega
theorem HR.below'{w':World}(hr:HR P w0 H φ w)(hb:Below w.heap.size w w'):HR P w0 H φ w':=by
  refine⟨fun b x hx=>?_,hr.inj,hr.n,hr.lim,hr.below.trans (hb.mono hr.below.size),hr.gl,hr.op,fun x C hx=>?_,hr.tl,hr.fo⟩
  · obtain⟨h1,h2,o,h3,h4⟩:=hr.blk b x hx
    exact⟨h1,h2,o,by rw[hb.block x (Array.getElem?_eq_some_iff.1 h3).1];exact h3,h4⟩
  · obtain⟨⟨t,fr,h1⟩,h2⟩:=hr.fz x C hx
    exact⟨⟨t,fr,by rw[hb.block x (Array.getElem?_eq_some_iff.1 h1).1];exact h1⟩,h2⟩
theorem HR.touch{l:Nat}{o o':Obj}(hr:HR P w0 H φ w)(hdead:∀ b,φ b=some l→(hget H b).kind=0)(hl:w0.heap.size≤l)(ho:w.heap[l]?=some o)(hno:∀ a b c,o ≠ .cells a b c):HR P w0 H φ (w.putObj l o'):=by
  obtain⟨s1,s2,s3⟩:=zbZ (w:=w) o' ho
  refine hr.store hdead ?_ (.inl hl) s2 ⟨o',s1⟩ s3 rfl rfl rfl
  cases hf:φ.fz l with
  | none=>rfl
  | some C =>
    obtain⟨⟨t,fr,h1⟩,_⟩:=hr.fz l C hf
    rw[ho] at h1
    exact absurd (Option.some.inj h1) (hno _ _ _)
end Go.Eng
namespace Go.Eng
open Go.RowKit
variable {P:Program} {w0:World} {H Hb H0:Hp} {φ φ0 φ':Ph} {w:World} {N k0:Nat} {T:Fr} {a:Act} {r:Rec} {L:RL} {ro:Option Nat}
theorem z0N{v:AV}{val:Value}(h:cl1 v=true)(hv:VR φ v val):FZ φ.fz v val:=by
  rcases zbw.1 h with h | h
  · exact zmq hv (zah.1 h)
  rcases zbw.1 h with h | h
  · exact hv.of_frz (zaa.1 h)
  · exact hv.of_fptr (zaa.1 h)
theorem zpi:∀ {cs:List AV} {vs:List Value},allL cl1 cs=true→VRs φ cs vs→FZs φ.fz cs vs:=by
  intro cs
  induction cs with
  | nil=>intro vs _ h;cases h;exact .nil
  | cons c cs ih =>
    intro vs h hv
    obtain⟨h1,h2⟩:=zaw.1 (show bi (cl1 c) (allL cl1 cs) false=true from h)
    cases hv with | cons g1 g2=>exact .cons (z0N h1 g1) (ih h2 g2)
theorem zuO{agg:Bool}{sz:Nat}(hagg:agg=false→sz=1):∀ (n:Nat) {cs:List AV},cs.length=n * sz→(∀ c ∈ cs,za6 c=true) →
    zba (ze9 agg sz n cs)=cs∧(∀ c ∈ ze9 agg sz n cs,zaO c=true∧(cellsOf c).length=sz)∧(ze9 agg sz n cs).length=n:=by
  intro n
  induction n with
  | zero =>
    intro cs h _
    have:cs=[]:=List.length_eq_zero_iff.1 (by omega)
    subst this
    exact⟨rfl,(fun c hc=>by cases hc),rfl⟩
  | succ n ih =>
    intro cs h h1
    have hl:cs.length=n * sz+sz:=by rw[h,Nat.add_mul];omega
    have e:ze9 agg sz (n+1) cs=zbE agg (cs.take sz)::ze9 agg sz n (cs.drop sz):=by
      show zbE agg (za4 sz cs)::ze9 agg sz n (zbJ cs sz)=_
      rw[zbv,zbB]
    obtain⟨g1,g2,g3⟩:=ih (cs:=cs.drop sz) (by rw[List.length_drop];omega) (fun c hc=>h1 c (List.mem_of_mem_drop hc))
    have ht:(cs.take sz).length=sz:=by rw[List.length_take];omega
    obtain⟨e1,e2⟩:=zgE (agg:=agg) (l:=cs.take sz) (fun c hc=>h1 c (List.mem_of_mem_take hc)) (fun h=>by rw[ht];exact hagg h)
    rw[e]
    refine⟨by rw[zbx,g1,e2,List.take_append_drop],fun c hc=>?_,by rw[List.length_cons,g3]⟩
    rcases List.mem_cons.1 hc with rfl | hc
    · exact⟨e1,by rw[e2,ht]⟩
    · exact g2 c hc
theorem znV{c:Kont}{t e:TypeId}{z:AV}{agg:Bool}{sz len:Nat}{is:List Nat}{pl:List (Nat × Nat)}{vs:List AV}{vals:List Value}{parts:Array (Nat × Value)}(hu:(tyB P t).run=some (.slice e))(hs:(szB P e).run=some sz)(hz:(zeB P e).run=some z)
    (hp:parts.toList=is.zip vals) (hl:is.length=vals.length) (hpl:zbS (fun i=>some (i * sz,sz)) is=some pl) (hsm:len * sz≤100000) (hzs:(cellsOf z).length=sz) (hsz0:0<sz) (hagg:agg=false→sz=1)
    (hv:VRs φ vs vals) (hr:HR P w0 H φ w) (hok:AllOk ((zhV agg sz pl (repC len (cellsOf z)) len).run vs H c)) :
    Out P w0 (fun v w'=>(Instr.buildSlice t len parts).run P w=.ok v w') H φ ((zhV agg sz pl (repC len (cellsOf z)) len).run vs H c) c:=by
  refine Out.om hok fun cs hcs hok=>?_
  obtain⟨i,zv,hi,hzv,hzr,hc⟩:=zeg hz
  obtain⟨h1,h2⟩:=(hzr φ).cells hc
  obtain⟨ie,hie,he⟩:=Option.map_eq_some_iff.1 (show (P.info? e).map (·.size)=some sz from hs)
  rw[hi] at hie;cases hie
  have hzsz:zv.cells.size=sz:=by rw[h1.length] at hzs;simpa using hzs
  have hmade:=zdw hzsz len
  have h3:VRs φ (repC len (cellsOf z)) (madeCells zv.cells (len * sz)).toList:=by rw[hmade];exact h1.repC len
  obtain⟨r,q1,q2,q3⟩:=zhk is pl vs vals _ cs _ hpl hv h3 (zdE h2 len) hcs hl
  rw[← hp] at q1
  have hrun:(Instr.buildSlice t len parts).run P w=.ok (.slice (some ⟨w.heap.size,0,none⟩) len len) (w.alloc (.cells r e)):=by
    subst he
    by_cases h0:len * i.size=0
    · rw[h0] at q1
      have q1':Instr.fill (fun k=>some (k * i.size,i.size)) (#[]:Array Value) parts.toList=some r:=by
        have e0:madeCells zv.cells 0=#[]:=by simp[madeCells]
        rw[e0] at q1
        exact q1
      simp[Instr.buildSlice,run_underlying hu,sizeOf,typeInfo,hi,h0,newRow]
      rw[show Array.map (fun _=>(default:Value)) (Array.range 0)=#[] from by simp,q1']
      rfl
    · refine run_buildSlice w t e len parts r i zv hu hi hzv (by omega) h0 ?_
      exact q1
  refine Out.bi2 hok (fun hcl hok=>?_) fun _ hok=>?_
  · obtain⟨hc1,hc2⟩:=zaw.1 hcl
    have hc2:cs.length=len * sz:=by have:=zaa.1 hc2;rw[zaz] at this;exact this
    obtain⟨g1,g2,g3⟩:=zuO (agg:=agg) hagg len hc2 q3
    have hrl:r.toList.length=len * sz:=by rw[← q2.length,hc2]
    have hle1:len≤len * sz:=Nat.le_mul_of_pos_right _ hsz0
    refine Out.newL (o:=.cells r e) (val:=.slice (some ⟨w.heap.size,0,none⟩) len len) len hr ?_ ?_ hrun hok
    · intro φ' hle hk
      refine⟨(fun h=>by cases h),(fun h=>by cases h),(fun h=>by cases h),fun _=>.inr (.inr ⟨.inl rfl,r.toList,[],e,(0,0),?_,?_,g2,fun _=>rfl,?_,?_,hsz0⟩)⟩
      · simp
      · show FZs φ'.fz (zba (ze9 agg sz len cs)) r.toList
        rw[g1]
        exact (zpi hc1 q2).mono hle.fz
      · rw[List.append_nil,hrl]
        show _=φ'.k _ * sz
        rw[hk]
      · show (ze9 agg sz len cs).length<2 ^ 40
        rw[g3];omega
    · intro φ' hle hf' hk htl
      have htl':φ'.tl H.n=len:=htl.trans g3
      have:=VR.own (φ:=φ') H.n w.heap.size len 0 [] hf' (by omega) (by omega)
      rw[hk] at this
      exact this
  · refine Out.new (o:=.cells r e) (val:=.slice (some ⟨w.heap.size,0,none⟩) len len) hr ?_ ?_ hrun hok
    · exact⟨fun _=>⟨r.toList,[],e,by simp,q2,q3,(fun h=>by cases h),(fun h=>by exact no21 h)⟩,fun h=>by simp[zbt] at h,fun h=>by simp[zbt] at h,no41⟩
    · intro φ' _ h;exact zer h (Nat.le_refl _) 0
theorem zuP{o:Oper}{t:TypeId}{len:Nat}{parts:Array (Nat × Operand)}(ho:o.op=.buildSlice t len parts){k:BR}{Q:Exit→Act→World→Prop}(hrec:zaU P r)(hL:AllOk L)(hs:St P w0 N Hb φ0 T H φ a w)(h:∀ x ∈ (zqY P N o t len parts k).run r T H,x ∈ L) :
    o.wpIn (fen ro) 0 P a w (On P w0 r N Hb φ0 L k) Q:=by
  unfold zqY at h
  split at h
  · rename_i e hu
    cases hsz:(szB P e).run with
    | none=>rw[hsz] at h;exact zcU hrec hL hs h
    | some sz =>
    rw[hsz,zan] at h
    cases hze:(zeB P e).run with
    | none=>rw[hze] at h;exact zcU hrec hL hs h
    | some z =>
    rw[hze,zan] at h
    cases hpl:zbS (fun i=>some (i * sz,sz)) (parts.toList.map (·.1)) with
    | none=>rw[hpl] at h;exact zcU hrec hL hs h
    | some pl =>
    rw[hpl,zan] at h
    cases hc:bi (nble (Nat.mul len sz) 100000) (bi (nbeq (lenL (cellsOf z)) sz) (bi (nble 1 sz) (bi (zaC P e) true (nbeq sz 1)) false) false) false
    · rw[hc] at h;exact zcU hrec hL hs h
    · rw[hc,zag] at h
      obtain⟨c1,hc⟩:=zaw.1 hc
      obtain⟨c2,hc⟩:=zaw.1 hc
      obtain⟨c3,c4⟩:=zaw.1 hc
      have c2:=zaa.1 c2
      rw[zaz] at c2
      have h':∀ x ∈ (zhV (zaC P e) sz pl (repC len (cellsOf z)) len).run ((zbT P (parts.toList.map (·.2))).run T) H (fun H v=>(putK N o.dst k).run r T H v),x ∈ L:=h
      obtain⟨H',v,φ',val,w',h1,h2,h3,h4,h5⟩:=znV (w0:=w0) (agg:=zaC P e) hu hsz hze (zdB (ρ:=a.eval) parts) (by simp) hpl (zah.1 c1) c2 (zah.1 c3) (fun hf=>by
        rcases zbw.1 c4 with h | h
        · rw[hf] at h;cases h
        · exact zaa.1 h) (by rw[zdD];exact zfF (fun x=>hs.tr.eval x) _) hs.hr (hL.of_sub h')
      refine⟨fun _ _=>trivial,?_⟩
      have hrun:(execOp a.eval o).run P w=.ok (.value val) w':=by
        have he:execOp a.eval o=(do pure (.value (← Instr.buildSlice t len (parts.map fun x=>(x.1,a.eval x.2))))):=by simp only[execOp,ho]
        rw[he]
        simp only[Sem.run_bind,h2,Result.andThen_ok,Sem.run_pure']
      rw[Oper.semAt_eq _ _ _ (fun c hc=>by rw[ho] at hc;cases hc),hrun,Oper.uponIn_value]
      exact zcI hL (hs.tr.mono h5.keep) h3 h4 (hs.ex.trans h5) fun x hx=>h' x (h1 x hx)
  · exact zcU hrec hL hs h
theorem ztv{o:Oper}{k:BR}{Q:Exit→Act→World→Prop}(hrec:zaU P r)(hL:AllOk L)(hs:St P w0 N Hb φ0 T H φ a w)(h:∀ x ∈ (opW P N o k).run r T H,x ∈ L) :
    o.wpIn (fen ro) 0 P a w (On P w0 r N Hb φ0 L k) Q:=by
  by_cases hpk:∃ x y z,o.op=.buildSlice x y z
  · obtain⟨x,y,z,ho⟩:=hpk
    simp only[opW,ho] at h
    exact zuP ho hrec hL hs h
  · have e:opW P N o k=opY P N o k:=by
      unfold opW
      split
      · rename_i x y z ho;exact absurd ⟨x,y,z,ho⟩ hpk
      · rfl
    rw[e] at h
    exact zog hrec hL hs h
theorem zyp{all:Array Oper}{o:Oper}{k:BR}{Q:Exit→Act→World→Prop}(hrec:zaU P r)(hL:AllOk L)(hs:St P w0 N Hb φ0 T H φ a w)(h:∀ x ∈ (opGW P N all o k).run r T H,x ∈ L) :
    if Region.wanted o (yielded all a.tmps) then o.wpIn (fen ro) 0 P a w (On P w0 r N Hb φ0 L k) Q else On P w0 r N Hb φ0 L k (a.put o.dst undef) w:=by
  unfold opGW at h
  cases hg:o.guard with
  | none =>
    rw[hg] at h
    simp only[Region.wanted,hg,if_true]
    exact ztv hrec hL hs h
  | some jw =>
    obtain⟨j,want⟩:=jw
    rw[hg] at h
    simp only[] at h
    cases hd:(all[j]?).bind (·.dst) with
    | none=>rw[hd] at h;exact (zaq hL h).elim
    | some d =>
      rw[hd] at h
      simp only[] at h
      cases hb:nble (Nat.succ d) N
      · rw[hb] at h;exact (zaq hL h).elim
      rw[hb,zag] at h
      have hy:=zhN hd hs.tr (zah.1 hb)
      have hv:=hs.tr.val d
      simp only[Region.wanted,hg]
      simp only[] at h
      cases h8:nbeq ((getB d).run T).tag 8
      · rw[h8,zai] at h
        cases h19:nbeq ((getB d).run T).tag 19
        · rw[h19] at h;exact (zaq hL h).elim
        · rw[h19,zag] at h
          have e:=hv.of_ud (zaa.1 h19)
          rw[e] at hy
          rw[hy]
          simp only[undef]
          exact zcI hL hs.tr (.ud _ _ _ _ _) hs.hr hs.ex h
      · rw[h8,zag] at h
        have h8:=zaa.1 h8
        obtain⟨b,e,hp,_⟩:=hv.of_bool h8
        rw[e] at hy
        rw[hy]
        have hbw:nbeq ((getB d).run T).p (bi want 1 0)=(some b == some want):=by
          rw[hp];cases b<;>cases want<;>rfl
        rw[hbw] at h
        cases hw:(some b == some want)
        · rw[hw] at h
          have hbn:b=nb want:=by cases b<;>cases want<;>first | rfl | cases hw
          have hks:=zeQ (o:=.tmp d) (b:=nb want) hs h8 (by rw[← hbn];exact hp)
          exact zcI hL hks.tr (.ud _ _ _ _ _) hs.hr hs.ex h
        · rw[hw] at h
          have hbn:b=want:=by cases b<;>cases want<;>first | rfl | cases hw
          have hks:=zeQ (o:=.tmp d) (b:=want) hs h8 (by rw[← hbn];exact hp)
          exact ztv hrec hL hks h
theorem zyq{ops:Array Oper}{k:BR}(hrec:zaU P r)(hL:AllOk L)(n:Nat):∀ (i:Nat) (T:Fr) (H:Hp) (φ:Ph) (a:Act) (w:World),i+n=ops.size→St P w0 N Hb φ0 T H φ a w →
    (∀ x ∈ (opsW P N ops (ops.toList.drop i) k).run r T H,x ∈ L)→wpOpsIn (fen ro) 0 P ops (QK P w0 r N Hb φ0 L k) (List.range' i n) a w:=by
  induction n with
  | zero =>
    intro i T H φ a w hi hs h
    rw[List.drop_of_length_le (by simp;omega)] at h
    exact⟨T,H,φ,hs,h⟩
  | succ n ih =>
    intro i T H φ a w hi hs h
    have hlt:i<ops.size:=by omega
    have hd:ops.toList.drop i=ops[i]::ops.toList.drop (i+1):=by
      rw[List.drop_eq_getElem_cons (by simpa using hlt)];simp
    rw[hd] at h
    have ho:ops[i]?=some ops[i]:=by simp[hlt]
    rw[List.range'_succ]
    simp only[wpOpsIn,ho]
    have key:=zyp (ro:=ro) (P:=P) (all:=ops) (o:=ops[i]) (k:=opsW P N ops (ops.toList.drop (i+1)) k) (Q:=QK P w0 r N Hb φ0 L k) hrec hL hs h
    have hnext:∀ a w,On P w0 r N Hb φ0 L (opsW P N ops (ops.toList.drop (i+1)) k) a w→wpOpsIn (fen ro) 0 P ops (QK P w0 r N Hb φ0 L k) (List.range' (i+1) n) a w:=by
      rintro a w ⟨T,H,φ,h1,h2⟩
      exact ih (i+1) T H φ a w (by omega) h1 h2
    split
    · rename_i hw
      rw[if_pos hw] at key
      exact Oper.wpIn_mono hnext key
    · rename_i hw
      rw[if_neg hw] at key
      exact⟨fun _ _=>trivial,hnext _ _ key⟩
end Go.Eng
