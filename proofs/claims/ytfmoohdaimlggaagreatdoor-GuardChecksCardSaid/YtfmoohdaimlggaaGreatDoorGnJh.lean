/- A part of the proof that the evaluator in GnC, and the driver in GnZ, answer as the model does; no conditions. -/
import Derived.Test.YtfmoohdaimlggaaGreatDoorGnJg
import Derived.Test.YtfmoohdaimlggaaGreatDoorGnHg
namespace Go.Eng
open Go.RowKit Go.Proofs
set_option maxRecDepth 4000
structure DistT(acc:List Tm):Prop where
  c:∀ o ∈ acc,acc.find? (fun x=>decide (x.nq=o.nq∧x.np=o.np))=some o
theorem ztZ:∀ (es acc r:List Tm),nmS acc es=some r→DistT acc→DistT r∧(∀ o ∈ acc,o ∈ r)∧∀ u ∈ es,varB u.op=true→∃ o ∈ r,o.nq=u.nq∧o.np=u.np∧o.op=u.op∧o.w=u.w:=by
  intro es
  induction es with
  | nil=>intro acc r h hd;rw[nmS] at h;cases h;exact⟨hd,fun o h=>h,fun u h=>by cases h⟩
  | cons e es ih =>
    intro acc r h hd
    cases hv:varB e.op
    · rw[zkw hv] at h
      obtain⟨h1,h2,h3⟩:=ih acc r h hd
      exact⟨h1,h2,fun u hu hvu=>by
        rcases List.mem_cons.1 hu with rfl | hu
        · rw[hv] at hvu;cases hvu
        · exact h3 u hu hvu⟩
    · rw[zfA hv] at h
      cases hf:acc.find? (fun o=>decide (o.nq=e.nq∧o.np=e.np)) with
      | none =>
        rw[hf] at h
        have hd2:DistT (acc++[e]):=⟨fun o ho=>by
          rcases List.mem_append.1 ho with ho | ho
          · rw[List.find?_append,hd.c o ho];rfl
          · rw[List.mem_singleton.1 ho,List.find?_append,hf];simp⟩
        obtain⟨h1,h2,h3⟩:=ih _ r h hd2
        refine⟨h1,fun o ho=>h2 o (List.mem_append_left _ ho),fun u hu hvu=>?_⟩
        rcases List.mem_cons.1 hu with rfl | hu
        · exact⟨u,h2 u (List.mem_append_right _ (List.mem_singleton.2 rfl)),rfl,rfl,rfl,rfl⟩
        · exact h3 u hu hvu
      | some o =>
        rw[hf] at h
        simp only at h
        split at h
        · rename_i ho
          obtain⟨h1,h2,h3⟩:=ih acc r h hd
          refine⟨h1,h2,fun u hu hvu=>?_⟩
          rcases List.mem_cons.1 hu with rfl | hu
          · have hn:=of_decide_eq_true (List.find?_some (p:=fun o:Tm=>decide (o.nq=u.nq∧o.np=u.np)) hf)
            exact⟨o,h2 o (List.mem_of_find?_eq_some hf),hn.1,hn.2,ho.1,ho.2⟩
          · exact h3 u hu hvu
        · cases h
theorem zrX{es r:List Tm}(h:nmS [] es=some r){u u':Tm}(hu:u ∈ es)(hu':u' ∈ es)(hv:varB u.op=true)(hv':varB u'.op=true)(h1:u.nq=u'.nq)(h2:u.np=u'.np):u.op=u'.op∧u.w=u'.w:=by
  obtain⟨hd,_,h3⟩:=ztZ es [] r h ⟨fun o h=>by cases h⟩
  obtain⟨o,ho,a1,a2,a3,a4⟩:=h3 u hu hv
  obtain⟨o',ho',b1,b2,b3,b4⟩:=h3 u' hu' hv'
  have e1:=hd.c o ho
  have e2:=hd.c o' ho'
  rw[a1,a2,h1,h2] at e1
  rw[b1,b2] at e2
  rw[e1] at e2
  cases e2
  exact⟨a3.symm.trans b3,a4.symm.trans b4⟩
theorem zua{vs:List (Nat × Nat × Nat)}{v x:Nat × Nat × Nat}(hc:∀ y ∈ vs,y.1=v.1→y.2.1=v.2.1→y=v):x ∈ insV vs v ↔ x ∈ vs ∨ x=v:=by
  unfold insV
  split
  · rename_i hf
    refine⟨.inl,fun h=>h.elim id fun e=>?_⟩
    unfold bsF at hf
    split at hf
    · rename_i y hy
      have hm:=List.mem_of_getElem? hy
      have hd:=of_decide_eq_true hf
      rw[e,← hc y hm hd.1 hd.2];exact hm
    · cases hf
  · rw[List.mem_append,List.mem_cons]
    have e:∀ i,x ∈ vs ↔ x ∈ vs.take i ∨ x ∈ vs.drop i:=fun i=>by
      conv=>lhs;rw[← List.take_append_drop i vs]
      exact List.mem_append
    rw[e (bsI vs (nmV v))]
    constructor
    · rintro (h | h | h)
      · exact .inl (.inl h)
      · exact .inr h
      · exact .inl (.inr h)
    · rintro ((h | h) | h)
      · exact .inl h
      · exact .inr (.inr h)
      · exact .inr (.inl h)
theorem zrY{o:Nat}:∀ (es:List Tm) (vs:List (Nat × Nat × Nat)),(∀ u ∈ es,u.op=o→∀ y ∈ vs,y.1=u.nq→y.2.1=u.np→y.2.2=u.w)→(∀ u ∈ es,∀ u' ∈ es,u.op=o→u'.op=o→u.nq=u'.nq→u.np=u'.np→u.w=u'.w) →
    ∀ x,x ∈ zdM o vs es ↔ x ∈ vs ∨ ∃ u ∈ es,u.op=o∧x=(u.nq,u.np,u.w):=by
  intro es
  induction es with
  | nil=>intro vs _ _ x;exact⟨.inl,fun h=>h.elim id fun⟨u,hu,_⟩=>by cases hu⟩
  | cons e es ih =>
    intro vs h1 h2 x
    have hcons:zdM o vs (e::es)=zdM o (addV o vs e) es:=rfl
    rw[hcons]
    by_cases ho:e.op=o
    · have ha:addV o vs e=insV vs (e.nq,e.np,e.w):=by unfold addV;rw[if_pos ho]
      have hm:∀ x,x ∈ insV vs (e.nq,e.np,e.w) ↔ x ∈ vs ∨ x=(e.nq,e.np,e.w):=fun x=>zua (fun y hy e1 e2=>by
        have:=h1 e (by simp) ho y hy e1 e2
        exact Prod.ext e1 (Prod.ext e2 this))
      rw[ha,ih (insV vs (e.nq,e.np,e.w)) (fun u hu hu2 y hy e1 e2=>by
        rcases (hm y).1 hy with h | h
        · exact h1 u (by simp[hu]) hu2 y h e1 e2
        · subst h;exact h2 e (by simp) u (by simp[hu]) ho hu2 e1 e2) (fun u hu u' hu'=>h2 u (by simp[hu]) u' (by simp[hu'])),hm]
      constructor
      · rintro ((h | h) | ⟨u,hu,h3,h4⟩)
        · exact .inl h
        · exact .inr ⟨e,by simp,ho,h⟩
        · exact .inr ⟨u,by simp[hu],h3,h4⟩
      · rintro (h | ⟨u,hu,h3,h4⟩)
        · exact .inl (.inl h)
        · rcases List.mem_cons.1 hu with rfl | hu
          · exact .inl (.inr h4)
          · exact .inr ⟨u,hu,h3,h4⟩
    · have ha:addV o vs e=vs:=by unfold addV;rw[if_neg ho]
      rw[ha,ih vs (fun u hu=>h1 u (by simp[hu])) (fun u hu u' hu'=>h2 u (by simp[hu]) u' (by simp[hu']))]
      constructor
      · rintro (h | ⟨u,hu,h3,h4⟩)
        · exact .inl h
        · exact .inr ⟨u,by simp[hu],h3,h4⟩
      · rintro (h | ⟨u,hu,h3,h4⟩)
        · exact .inl h
        · rcases List.mem_cons.1 hu with rfl | hu
          · exact absurd h3 ho
          · exact .inr ⟨u,hu,h3,h4⟩
theorem zhG(vs:List (Nat × Nat × Nat))(u:Tm):hasV vs u=decide ((u.nq,u.np,u.w) ∈ vs):=by
  unfold hasV
  rw[Bool.eq_iff_iff,List.any_eq_true,decide_eq_true_eq]
  constructor
  · rintro⟨x,hx,h⟩
    have h:=of_decide_eq_true h
    have:x=(u.nq,u.np,u.w):=Prod.ext h.1 (Prod.ext h.2.1 h.2.2)
    rw[← this];exact hx
  · exact fun h=>⟨_,h,decide_eq_true ⟨rfl,rfl,rfl⟩⟩
theorem ziy{t:Tm}{r:List Tm}(h:nmS [] (preT t)=some r)(vs us:List (Nat × Nat × Nat)):zb6 t vs us=zbH t vs us:=by
  have key:∀ o,(o=24 ∨ o=25)→∀ x,x ∈ zb3 o [] [t] ↔ ∃ u ∈ preT t,u.op=o∧x=(u.nq,u.np,u.w):=fun o ho x=>by
    have hv:∀ u:Tm,u.op=o→varB u.op=true:=fun u hu=>by
      rw[hu];rcases ho with rfl | rfl<;>rfl
    have:=zrY (o:=o) (preT t) [] (fun u _ _ y hy=>by cases hy) (fun u hu u' hu' h1 h2 h3 h4=>(zrX h hu hu' (hv u h1) (hv u' h2) h3 h4).2) x
    refine Iff.trans this ⟨fun h=>h.elim (fun h=>by cases h) id,.inr⟩
  unfold zb6 zbH
  rw[Bool.eq_iff_iff,Bool.and_eq_true,List.all_eq_true,List.all_eq_true,List.all_eq_true]
  constructor
  · rintro⟨h1,h2⟩ u hu
    rw[Bool.and_eq_true]
    constructor
    · split
      · rename_i ho
        rw[zhG]
        exact h1 _ ((key 24 (.inl rfl) _).2 ⟨u,hu,ho,rfl⟩)
      · rfl
    · split
      · rename_i ho
        rw[zhG]
        exact h2 _ ((key 25 (.inr rfl) _).2 ⟨u,hu,ho,rfl⟩)
      · rfl
  · intro h1
    constructor
    · intro x hx
      obtain⟨u,hu,ho,rfl⟩:=(key 24 (.inl rfl) x).1 hx
      have:=h1 u hu
      rw[Bool.and_eq_true,if_pos ho] at this
      have:=this.1
      rw[zhG] at this
      exact this
    · intro x hx
      obtain⟨u,hu,ho,rfl⟩:=(key 25 (.inr rfl) x).1 hx
      have:=h1 u hu
      rw[Bool.and_eq_true,if_pos ho] at this
      have:=this.2
      rw[zhG] at this
      exact this
theorem chk0{t:Tm}(h:chkT t=0):∃ r,nmS [] (preT t)=some r:=by
  rw[zlk] at h
  split at h
  · cases h
  · split at h
    · rename_i h2;exact absurd h h2
    · cases hn:nmS [] (preT t) with
      | none=>rw[hn] at h;cases h
      | some r=>exact⟨r,rfl⟩
theorem zpZ{t:Tm}(h:zeV t=true)(vs us:List (Nat × Nat × Nat)):zbH t vs us=true:=by
  obtain⟨op,w,v,nq,np,p,l⟩:=t
  unfold zeV at h
  rw[eqT] at h
  simp only[Bool.and_eq_true,decide_eq_true_eq] at h
  obtain⟨⟨⟨⟨h1,_⟩,_⟩,_⟩,h6⟩:=h
  cases l with
  | nil=>subst h1;unfold zbH;rw[preT,zb8];rfl
  | cons a l=>cases h6
theorem zwO(k:Nat)(a b:Tm)(vs us:List (Nat × Nat × Nat)):zjg k a b vs us=zgx k a b vs us:=by
  unfold zjg zgx
  by_cases hf:zdd k a.op b=false
  · rw[if_pos hf,if_pos hf]
  rw[if_neg hf,if_neg hf]
  by_cases ha:chkT a ≠ 0
  · rw[if_pos ha,if_pos ha]
  rw[if_neg ha,if_neg ha]
  by_cases hb:k ≠ 1∧chkT b ≠ 0
  · rw[if_pos hb,if_pos hb]
  rw[if_neg hb,if_neg hb]
  obtain⟨ra,hra⟩:=chk0 (Decidable.not_not.1 ha)
  rw[ziy hra]
  by_cases h1:k=1
  · subst h1
    have hz:zeV b=true:=by
      have:zdd 1 a.op b=true:=by cases h:zdd 1 a.op b;exact absurd h hf;rfl
      unfold zdd at this
      rwa [if_pos rfl] at this
    rw[zpZ hz]
    simp
  · have hcb:chkT b=0:=Decidable.not_not.1 fun h=>hb ⟨h1,h⟩
    obtain⟨rb,hrb⟩:=chk0 hcb
    rw[ziy hrb]
    simp only[h1,if_false,false_and,false_or,ne_eq,not_false_eq_true,true_and]
noncomputable section
def NtL3(x:Nat × Native):Nat→Option Native:=ntL [x,(5,natP PT 5 [28] fun l=>bV (zgr (nthL l 0))),(7,natP PT 7 [28,29,29] fun l=>i64 (zha (nthL l 0) (nthL l 1).cs (nthL l 2).cs)),(8,natP PT 8 [28,29,29] fun l=>i64 (zhb (nthL l 0) (nthL l 1).cs (nthL l 2).cs))]
def RL3:Rec:=evN PT (NtL3 (6,zkI LA)) (fun _=>false) 2
end
theorem z0a:zaU Tryz.prog RL3:=zdt mixed (zg5 (ztj mixed zcz (zmf zyU zcK) globs zvn zrD fnlv zpM) (by repeat (first | exact zcK | refine zat ?_))) zcz 2
end Go.Eng
namespace Go.Eng
open Go.RowKit Go.Proofs
set_option maxRecDepth 4000
def NmB(t:Tm):Prop:=t.All fun _ _ _ nq _ _ _=>nq<2 ^ 62
theorem z0b:∀ {t:Tm} {d:Nat},t.ok→NmB t→t.Sm d→t.All NdQ:=by
  intro t
  induction t using Tm.ind with
  | h op w v nq np p l ih =>
    intro d h1 h2 h3
    cases h1 with | mk a1 a2 =>
    cases h2 with | mk b1 b2 =>
    cases h3 with | mk c1 c2 =>
    exact .mk ⟨a1.1,a1.2.1,a1.2.2.1,b1,c1⟩ fun t ht=>ih t ht (a2 t ht) (b2 t ht) (c2 t ht)
theorem z0c{Q:Nat→Nat→Nat→Nat→Nat→Nat→List Tm→Prop}:∀ (t:Tm),t.All Q→∀ u ∈ poT t,u.All Q:=by
  intro t
  induction t using Tm.ind with
  | h op w v nq np p l ih =>
    intro h u hu
    rw[poT] at hu
    rcases List.mem_append.1 hu with hu | hu
    · cases h with | mk h1 h2 =>
      have key:∀ l:List Tm,(∀ t ∈ l,t.All Q→∀ u ∈ poT t,u.All Q)→(∀ t ∈ l,t.All Q)→∀ u ∈ poTs l,u.All Q:=by
        intro l
        induction l with
        | nil=>intro _ _ u hu;rw[poTs] at hu;cases hu
        | cons a l ihl =>
          intro g1 g2 u hu
          rw[poTs] at hu
          rcases List.mem_append.1 hu with hu | hu
          · exact g1 a (by simp) (g2 a (by simp)) u hu
          · exact ihl (fun t ht=>g1 t (by simp[ht])) (fun t ht=>g2 t (by simp[ht])) u hu
      exact key l ih h2 u hu
    · rw[List.mem_singleton.1 hu];exact h
theorem z3j:∀ (t:Tm) (d:Nat),t.Sm d→∀ u ∈ poT t,u.Sm d:=by
  intro t
  induction t using Tm.ind with
  | h op w v nq np p l ih =>
    intro d h u hu
    rw[poT] at hu
    rcases List.mem_append.1 hu with hu | hu
    · cases h with | @mk m _ _ _ _ _ _ _ h1 h2 =>
      have key:∀ l:List Tm,(∀ t ∈ l,∀ d,t.Sm d→∀ u ∈ poT t,u.Sm d)→(∀ t ∈ l,t.Sm m)→∀ u ∈ poTs l,u.Sm m:=by
        intro l
        induction l with
        | nil=>intro _ _ u hu;rw[poTs] at hu;cases hu
        | cons a l ihl =>
          intro g1 g2 u hu
          rw[poTs] at hu
          rcases List.mem_append.1 hu with hu | hu
          · exact g1 a (by simp) m (g2 a (by simp)) u hu
          · exact ihl (fun t ht=>g1 t (by simp[ht])) (fun t ht=>g2 t (by simp[ht])) u hu
      exact (key l ih h2 u hu).up (by omega)
    · rw[List.mem_singleton.1 hu];exact h
theorem z0d:∀ (t:Tm) (d n k:Nat),cnt t d n=some k→szT t+k=n∧dpT t≤d:=by
  intro t
  induction t using Tm.ind with
  | h op w v nq np p l ih =>
    intro d n k h
    rw[cnt] at h
    split at h
    · cases h
    · rename_i h0
      have key:∀ l:List Tm,(∀ t ∈ l,∀ d n k,cnt t d n=some k→szT t+k=n∧dpT t≤d)→∀ m n k,cnts l m n=some k→szTs l+k=n∧dpTs l≤m:=by
        intro l
        induction l with
        | nil=>intro _ m n k h;rw[cnts] at h;cases h;exact⟨by rw[szTs];omega,by rw[dpTs];omega⟩
        | cons a l ihl =>
          intro g m n k h
          rw[cnts] at h
          cases hc:cnt a m n with
          | none=>rw[hc] at h;cases h
          | some j =>
            rw[hc] at h
            obtain⟨e1,e2⟩:=g a (by simp) m n j hc
            obtain⟨e3,e4⟩:=ihl (fun t ht=>g t (by simp[ht])) m j k h
            rw[szTs,dpTs]
            exact⟨by omega,by omega⟩
      have:=key l ih (d - 1) (n - 1) k h
      rw[szT,dpT]
      omega
theorem zoJ{t:Tm}(h1:t.ok)(h2:NmB t)(hl:zb2 t 12 20=true):GdOk t:=by
  have hs:=zj3 hl
  have hq:=z0b h1 h2 hs
  have hc:szT t≤20∧dpT t≤12:=by
    unfold zb2 at hl
    cases hc:cnt t 12 20 with
    | none=>rw[hc] at hl;cases hl
    | some k=>obtain⟨e1,e2⟩:=z0d t 12 20 k hc;exact⟨by omega,e2⟩
  exact⟨hq,h1.len,by omega,by omega,fun u hu=>⟨z0c t hq u hu,(z3j t 12 hs u hu).up (by omega)⟩⟩
end Go.Eng
namespace Go.Eng
open Go.RowKit Go.Proofs
set_option maxRecDepth 4000
theorem s3(J:Jmp)(k ao aw av aq an ap bo bw bv bq bn bp xp yp:Nat)(al bl xl yl:List AV):(zaB Tryz.prog 33 (fun _=>none) (finY Tryz.prog [.tmp 6] [4]) J [] (zad Tryz.f3) (finY Tryz.prog [.tmp 6] [4]) []).run RL3 (zar 0 [aggV [i64 k,i64 ao,i64 aw,u64 av,stA aq an,slP ap 5 al,i64 bo,i64 bw,u64 bv,stA bq bn,slP bp 5 bl],slP xp 2 xl,slP yp 2 yl] noFr) (zd2 Tryz.prog LA) =
  (bi (nbeq (okN (zac PT 5 [(aggV [(i64 k),(i64 ao),(i64 aw),(u64 av),(stA aq an),(slP ap 5 al),(i64 bo),(i64 bw),(u64 bv),(stA bq bn),(slP bp 5 bl)])] (mk1 8 (bi (zgr (aggV [(i64 k),(i64 ao),(i64 aw),(u64 av),(stA aq an),(slP ap 5 al),(i64 bo),(i64 bw),(u64 bv),(stA bq bn),(slP bp 5 bl)])) 1 0)))) 1)
 (bi (nbeq (Nat.sub 1 (bi (zgr (aggV [(i64 k),(i64 ao),(i64 aw),(u64 av),(stA aq an),(slP ap 5 al),(i64 bo),(i64 bw),(u64 bv),(stA bq bn),(slP bp 5 bl)])) 1 0)) 0)
 (bi (nbeq (bi (nb (nble (biased 3 (lenL xl)) 9223372036854775828)) 1 0) 0)
 (bi (nbeq (bi (nb (nble (biased 3 (lenL yl)) 9223372036854775828)) 1 0) 1)
 (ansY (mk1 8 1))
 (bi (nbeq (okN (zac PT 7 [(aggV [(i64 k),(i64 ao),(i64 aw),(u64 av),(stA aq an),(slP ap 5 al),(i64 bo),(i64 bw),(u64 bv),(stA bq bn),(slP bp 5 bl)]),(slP xp 2 xl),(slP yp 2 yl)] (i64 (zha (aggV [(i64 k),(i64 ao),(i64 aw),(u64 av),(stA aq an),(slP ap 5 al),(i64 bo),(i64 bw),(u64 bv),(stA bq bn),(slP bp 5 bl)]) xl yl)))) 1)
 (bi (eqA 1000 (slP yp 2 yl) (slP yp 2 yl))
 (bi (eqA 1000 (slP xp 2 xl) (slP xp 2 xl))
 (bi (eqA 1000 (aggV [(i64 k),(i64 ao),(i64 aw),(u64 av),(stA aq an),(slP ap 5 al),(i64 bo),(i64 bw),(u64 bv),(stA bq bn),(slP bp 5 bl)]) (aggV [(i64 k),(i64 ao),(i64 aw),(u64 av),(stA aq an),(slP ap 5 al),(i64 bo),(i64 bw),(u64 bv),(stA bq bn),(slP bp 5 bl)]))
 (bi (nbeq (okN (zac PT 8 [(aggV [(i64 k),(i64 ao),(i64 aw),(u64 av),(stA aq an),(slP ap 5 al),(i64 bo),(i64 bw),(u64 bv),(stA bq bn),(slP bp 5 bl)]),(slP xp 2 xl),(slP yp 2 yl)] (i64 (zhb (aggV [(i64 k),(i64 ao),(i64 aw),(u64 av),(stA aq an),(slP ap 5 al),(i64 bo),(i64 bw),(u64 bv),(stA bq bn),(slP bp 5 bl)]) xl yl)))) 1)
 (bi (nbeq (bi (nbeq (zha (aggV [(i64 k),(i64 ao),(i64 aw),(u64 av),(stA aq an),(slP ap 5 al),(i64 bo),(i64 bw),(u64 bv),(stA bq bn),(slP bp 5 bl)]) xl yl) (zhb (aggV [(i64 k),(i64 ao),(i64 aw),(u64 av),(stA aq an),(slP ap 5 al),(i64 bo),(i64 bw),(u64 bv),(stA bq bn),(slP bp 5 bl)]) xl yl)) 1 0) 1)
 (ansY (mk1 8 1))
 (bi (nbeq (bi (nbeq (zha (aggV [(i64 k),(i64 ao),(i64 aw),(u64 av),(stA aq an),(slP ap 5 al),(i64 bo),(i64 bw),(u64 bv),(stA bq bn),(slP bp 5 bl)]) xl yl) (zhb (aggV [(i64 k),(i64 ao),(i64 aw),(u64 av),(stA aq an),(slP ap 5 al),(i64 bo),(i64 bw),(u64 bv),(stA bq bn),(slP bp 5 bl)]) xl yl)) 1 0) 0)
 (ansY (mk1 8 0))
 (zab 40)))
 (zab 301))
 (zab 90))
 (zab 90))
 (zab 90))
 (zab 301)))
 (ansY (mk1 8 1)))
 (ansY (mk1 8 1)))
 (zab 301)):=by kernel_rfl
theorem z3k:Tryz.f3.body=some (zad Tryz.f3):=by kernel_rfl
theorem fn3:Tryz.prog.funcs[3]?=some Tryz.f3:=by kernel_rfl
theorem nt3:Tryz.f3.ntmps=33:=by kernel_rfl
theorem rs3:Tryz.f3.results.toList=[.tmp 6]:=by kernel_rfl
theorem gt20{x:Nat}(hx:x<2 ^ 63):nb (nble (biased 3 x) 9223372036854775828)=decide (20<x):=gtc 20 hx (by omega)
theorem zoK(p:Nat)(vs:List (Nat × Nat × Nat)):eqA 1000 (slP p 2 (vs.map vbA)) (slP p 2 (vs.map vbA))=true:=by
  refine zcv 999 24 _ 0 2 0 _ fun c hc=>?_
  obtain⟨x,_,rfl⟩:=List.mem_map.1 hc
  refine zcv 998 15 0 0 0 0 _ fun c hc=>?_
  simp only[List.mem_cons,List.not_mem_nil,or_false] at hc
  rcases hc with rfl | rfl<;>exact znj 997 _ _ _ _ _
theorem z3l(k:Nat)(a b:Tm)(vs us:List (Nat × Nat × Nat)):zha (gdA k a b) (vs.map vbA) (us.map vbA)=zjg k a b vs us:=by unfold zha;rw[zpW,zpX,zpY,zcn,zcn]
theorem z3m(k:Nat)(a b:Tm)(vs us:List (Nat × Nat × Nat)):zhb (gdA k a b) (vs.map vbA) (us.map vbA)=zgx k a b vs us:=by unfold zhb;rw[zpW,zpX,zpY,zcn,zcn]
theorem law3(J:Jmp)(k:Nat)(a b:Tm)(p p':Nat)(vs us:List (Nat × Nat × Nat))(ha:a.ok∧NmB a)(hb:b.ok∧NmB b)(hv:vs.length<2 ^ 62)(hu:us.length<2 ^ 62) :
    (zaB Tryz.prog 33 (fun _=>none) (finY Tryz.prog [.tmp 6] [4]) J [] (zad Tryz.f3) (finY Tryz.prog [.tmp 6] [4]) []).run RL3 (zar 0 [gdA k a b,slP p 2 (vs.map vbA),slP p' 2 (us.map vbA)] noFr) (zd2 Tryz.prog LA)=ansY (bV true):=by
  have q5:okN (zac PT 5 [gdA k a b] (mk1 8 (bi (zb2 a 12 20 && zb2 b 12 20) 1 0)))=1:=zak.2 (z1H k a b ha.1.len hb.1.len)
  have e5:zgr (gdA k a b)=(zb2 a 12 20 && zb2 b 12 20):=by unfold zgr;rw[z1Z,z2a]
  have hst:=s3 J k a.op a.w a.v a.nq a.np a.p b.op b.w b.v b.nq b.np b.p p p' (a.as.map tmA) (b.as.map tmA) (vs.map vbA) (us.map vbA)
  rw[z1Y k a b,e5,z3l,z3m,zau,zau,gt20 (by omega),gt20 (by omega),q5,n11,zae,zoK,zoK] at hst
  refine hst.trans ?_
  simp only[bS0,b0,zao]
  cases hlt:zb2 a 12 20 && zb2 b 12 20
  · rw[zaj];rfl
  rw[zae]
  by_cases h1:20<vs.length
  · rw[decide_eq_true h1,zae];rfl
  rw[decide_eq_false h1,zaj]
  by_cases h2:20<us.length
  · rw[decide_eq_true h2,zae];rfl
  rw[decide_eq_false h2,zaj]
  obtain⟨hla,hlb⟩:=Bool.and_eq_true _ _ ▸ hlt
  have ga:=zoJ ha.1 ha.2 hla
  have gb:=zoJ hb.1 hb.2 hlb
  have q7:=zak.2 (zzY k a b vs us p p' ga gb hv hu)
  have q8:=zak.2 (zzZ k a b vs us p p' ga gb hv hu)
  rw[q7,n11,zae,zae,zae,zyV ((zj3 hla).up (by omega)) ((zj3 hlb).up (by omega)),zae,q8,n11,zae,zwO,show nbeq (zgx k a b vs us) (zgx k a b vs us)=true from zaa.2 rfl,zae]
  rfl
theorem zqa(k:Nat)(a b:Tm)(p p':Nat)(vs us:List (Nat × Nat × Nat))(ha:a.ok∧NmB a)(hb:b.ok∧NmB b)(hv:vs.length<2 ^ 62)(hu:us.length<2 ^ 62){W:World}{vals:List Value}(hW:zhS W LA)(hsz:Tryz.prog.globals.size≤W.heap.size)(hargs:FVs (allZ W) [gdA k a b,slP p 2 (vs.map vbA),slP p' 2 (us.map vbA)] vals):Calls Tryz.prog 3 vals.toArray W fun e W'=>e=.returned (.bool true)∧Below W.heap.size W W' :=
  z0I mixed fn3 z3k nt3 rs3 z0a globs zvn zrD (lab:=fun _=>none) (ts:=[4]) (n:=0) (law3 _ k a b p p' vs us ha hb hv hu) hW hsz hargs
end Go.Eng
