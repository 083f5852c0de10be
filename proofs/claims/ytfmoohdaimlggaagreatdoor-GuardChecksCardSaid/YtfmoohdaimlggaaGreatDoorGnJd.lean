/- A part of the proof that the evaluator in GnC, and the driver in GnZ, answer as the model does; no conditions. -/
import Derived.Test.YtfmoohdaimlggaaGreatDoorGnJc
import Derived.Test.YtfmoohdaimlggaaGreatDoorGnIb
import Derived.Test.YtfmoohdaimlggaaGreatDoorGnIa
namespace Go.Eng
open Go.RowKit Go.Proofs
theorem z2K:Tryz.prog.funcs[287]?=some Tryz.f287:=by kernel_rfl
theorem zzq:zji Tryz.prog 287 zjc:=zrF z2K (by kernel_rfl) (by kernel_rfl) (by kernel_rfl) (by kernel_rfl)
noncomputable section
def RBs:Rec:=evN Tryz.prog (ntL [(1287,zjc)]) (fun _=>false) 5
def zkt:Lab:=labT [([0,0,0,1,1,1],[(0,0),(1,0),(2,0),(8,0),(9,0),(10,0)])]
end
theorem zzr:zaU Tryz.prog RBs:=zdt mixed (zmf zzq zcK) zcz 5
end Go.Eng
namespace Go.Eng
open Go.RowKit Go.Proofs
set_option maxRecDepth 4000
noncomputable section
def elA(l:List AV)(i:Nat):List AV:=cellsOf (nthL l i)
def mid9(i j:Nat):Nat:=cnvN 7 3 (shrN 7 (cnvN 3 7 (zaR i j)) 1)
def nmV(v:Nat × Nat × Nat):AV:=stA v.1 v.2.1
def bsI(vs:List (Nat × Nat × Nat))(t:AV):Nat:=(vs.takeWhile fun v=>zbp (nmV v) t).length
def bsF(vs:List (Nat × Nat × Nat))(t:AV):Bool:=match vs[bsI vs t]? with | some v=>decide (v.1=t.q∧v.2.1=t.p) | none=>false
def zgZ(l:List AV)(t:AV):Nat:=bsI (l.map unVb) t
def ziw(l:List AV)(t:AV):Bool:=bsF (l.map unVb) t
end
theorem s183(J:Jmp)(xp k m:Nat)(xl:List AV):(zaB Tryz.prog 49 zkt (finY Tryz.prog [.tmp 6,.tmp 7] [3,4]) J [] (zad Tryz.f183) (finY Tryz.prog [.tmp 6,.tmp 7] [3,4]) []).run RBs (zar 0 [slP xp 2 xl,stA k m,⟨13,184,0,0,0,[]⟩] noFr) (zaf Tryz.prog) =
  (J [0,0,0,1,1,1] [⟨24,xp,0,2,0,xl⟩,(stA k m),(AV.mk 13 184 0 0 0 []),(i64 (lenL xl)),(i64 0),(i64 (lenL xl))]):=by kernel_rfl
theorem l183(J:Jmp)(xp k m n i j:Nat)(xl:List AV):lblY Tryz.prog 49 zkt (zaf Tryz.prog) RBs (finY Tryz.prog [.tmp 6,.tmp 7] [3,4]) (zad Tryz.f183) J [0,0,0,1,1,1] [slP xp 2 xl,stA k m,⟨13,184,0,0,0,[]⟩,i64 n,i64 i,i64 j] =
  (bi (nbeq (bi (nb (nble (biased 3 j) (biased 3 i))) 1 0) 1)
 (bi (nble (mid9 i j).succ (lenL xl))
 (bi (bi (zax 9 (nthL (elA xl (mid9 i j)) 0)) (bi (zax 3 (nthL (elA xl (mid9 i j)) 1)) true false) false)
 (bi (nbeq (bi (nb (nble 9223372036854775808 (biased 3 (cmpS (stA ((nthL (elA xl (mid9 i j)) 0).3) ((nthL (elA xl (mid9 i j)) 0).2)) (stA k m))))) 1 0) 1)
 (J [0,0,0,1,1,1] [⟨24,xp,0,2,0,xl⟩,(stA k m),(AV.mk 13 184 0 0 0 []),(i64 n),(i64 (zaR (mid9 i j) 1)),(i64 j)])
 (J [0,0,0,1,1,1] [⟨24,xp,0,2,0,xl⟩,(stA k m),(AV.mk 13 184 0 0 0 []),(i64 n),(i64 i),(i64 (mid9 i j))]))
 (zab 201))
 (zab 205))
 (bi (nbeq (bi (nb (nble (biased 3 n) (biased 3 i))) 1 0) 1)
 (bi (nble i.succ (lenL xl))
 (bi (bi (zax 9 (nthL (elA xl i) 0)) (bi (zax 3 (nthL (elA xl i) 1)) true false) false)
 (ansY (tupV [(i64 i),(mk1 8 (bi (nbeq (cmpS (stA ((nthL (elA xl i) 0).3) ((nthL (elA xl i) 0).2)) (stA k m)) 0) 1 0))]))
 (zab 201))
 (zab 205))
 (ansY (tupV [(i64 i),(mk1 8 0)])))):=by kernel_rfl
theorem zw5:Tryz.f183.body=some (zad Tryz.f183):=by kernel_rfl
theorem z2L:Tryz.prog.funcs[183]?=some Tryz.f183:=by kernel_rfl
theorem z2M:Tryz.f183.ntmps=49:=by kernel_rfl
theorem z2N:Tryz.f183.results.toList=[.tmp 6,.tmp 7]:=by kernel_rfl
theorem znm(vs:List (Nat × Nat × Nat))(i:Nat)(h:i<vs.length):elA (vs.map vbA) i=[nmV vs[i],i64 vs[i].2.2]:=by
  unfold elA;rw[zca vbA vs i h];rfl
theorem ztS(a b:AV):nb (nble 9223372036854775808 (biased 3 (cmpS a b)))=zbp a b:=by
  unfold cmpS
  cases zbp a b
  · cases zbp b a<;>kernel_rfl
  · kernel_rfl
theorem zrM(a b:AV):nbeq (cmpS a b) 0=decide (a.q=b.q∧a.p=b.p):=by
  unfold cmpS
  cases h1:zbp a b
  · cases h2:zbp b a
    · rw[decide_eq_true (zkl h1 h2)];rfl
    · have:¬ (a.q=b.q∧a.p=b.p):=fun h=>by
        rw[zgt,h.1,h.2] at h2;omega
      rw[decide_eq_false this];rfl
  · have:¬ (a.q=b.q∧a.p=b.p):=fun h=>by
      rw[zgt,h.1,h.2] at h1;omega
    rw[decide_eq_false this];rfl
theorem zw6{i j:Nat}(h:i+j<2 ^ 63):mid9 i j=(i+j) / 2:=by
  have h3:kMod 3=2 ^ 64:=by decide +kernel
  have h7:kMod 7=2 ^ 64:=by decide +kernel
  have hh3:zbj 3=2 ^ 63:=by decide +kernel
  have hh7:zbj 7=2 ^ 64:=by decide +kernel
  have e1:zaR i j=i+j:=by rw[zif];omega
  have e2:cnvN 3 7 (i+j)=i+j:=by
    unfold cnvN zbb
    rw[zbI,hh3,zaW.2 (by omega),zai,h7]
    exact Nat.mod_eq_of_lt (by omega)
  have e3:shrN 7 (i+j) 1=(i+j) / 2:=by
    unfold shrN zbb
    rw[zbD,hh7,zaW.2 (by omega),zai,show nble (zcM 7) 1=false by decide +kernel,zai]
    exact Nat.shiftRight_eq_div_pow _ 1
  have e4:cnvN 7 3 ((i+j) / 2)=(i+j) / 2:=by
    unfold cnvN zbb
    rw[zbI,hh7,zaW.2 (by omega),zai,h3]
    exact Nat.mod_eq_of_lt (by omega)
  unfold mid9
  rw[e1,e2,e3,e4]
theorem zid{α:Type}{p:α→Bool}:∀ {l:List α} {i:Nat},i≤l.length→(∀ k (h:k<l.length),k<i→p l[k]=true)→(∀ h:i<l.length,p l[i]=false)→(l.takeWhile p).length=i
  | [],i,h,_,_=>by simp at h;subst h;rfl
  | a::l,0,_,_,h2=>by
    have:=h2 (by simp)
    simp at this
    simp[this]
  | a::l,i+1,h,h1,h2=>by
    have:=h1 0 (by simp) (by omega)
    simp at this
    rw[List.takeWhile_cons_of_pos this,List.length_cons,zid (l:=l) (i:=i) (by simpa using h) (fun k hk hi=>h1 (k+1) (by simpa using hk) (by omega)) (fun hi=>h2 (by simpa using hi))]
def ze1(vs:List (Nat × Nat × Nat)):Prop:=vs.Pairwise fun a b=>zbp (nmV a) (nmV b)=true
theorem zb9{i j:Nat}(hi:i<2 ^ 63)(hj:j<2 ^ 63):nb (nble (biased 3 j) (biased 3 i))=decide (i<j):=by
  rw[zbC hj hi]
  by_cases h:i<j
  · rw[decide_eq_true h,decide_eq_false (by omega)];rfl
  · rw[decide_eq_false h,decide_eq_true (by omega)];rfl
theorem zw7(vs:List (Nat × Nat × Nat))(p k m:Nat)(hs:ze1 vs)(hl:vs.length<2 ^ 32):∀ (fuel i j:Nat),i≤j→j≤vs.length→(∀ (x:Nat) (h:x<vs.length),x<i→zbp (nmV vs[x]) (stA k m)=true)→(∀ (x:Nat) (h:x<vs.length),j≤x→zbp (nmV vs[x]) (stA k m)=false)→j - i<fuel →
    jmpN Tryz.prog 49 zkt (zaf Tryz.prog) RBs (finY Tryz.prog [.tmp 6,.tmp 7] [3,4]) (zad Tryz.f183) fuel [0,0,0,1,1,1] [slP p 2 (vs.map vbA),stA k m,⟨13,184,0,0,0,[]⟩,i64 vs.length,i64 i,i64 j]=ansY (tupV [i64 (bsI vs (stA k m)),bV (bsF vs (stA k m))]):=by
  intro fuel
  induction fuel with
  | zero=>intro i j _ _ _ _ h;omega
  | succ fuel ih =>
    intro i j hij hj h1 h2 hf
    rw[zal,l183]
    simp only[zao,zau]
    rw[zb9 (by omega) (by omega)]
    by_cases hlt:i<j
    · have hm:mid9 i j=(i+j) / 2:=zw6 (by omega)
      have hml:(i+j) / 2<vs.length:=by omega
      rw[decide_eq_true hlt,zae,hm,zah.2 (show ((i+j) / 2).succ≤vs.length from hml),zae,znm vs _ hml]
      show bi (bi (zax 9 (nmV vs[(i+j) / 2])) _ _) _ _=_
      rw[show zax 9 (nmV vs[(i+j) / 2])=true from rfl,zae,show zax 3 (nthL [nmV vs[(i+j) / 2],i64 vs[(i+j) / 2].2.2] 1)=true from rfl,zae,zae]
      rw[show stA (nthL [nmV vs[(i+j) / 2],i64 vs[(i+j) / 2].2.2] 0).3 (nthL [nmV vs[(i+j) / 2],i64 vs[(i+j) / 2].2.2] 0).2=nmV vs[(i+j) / 2] from rfl,ztS,zcf (by omega)]
      cases hc:zbp (nmV vs[(i+j) / 2]) (stA k m)
      · rw[zaj]
        refine ih i ((i+j) / 2) (by omega) (by omega) h1 (fun x hx hjx=>?_) (by omega)
        by_cases he:x=(i+j) / 2
        · subst he;exact hc
        · cases hq:zbp (nmV vs[x]) (stA k m)
          · rfl
          · have hp:=List.pairwise_iff_getElem.1 hs ((i+j) / 2) x hml hx (by omega)
            rw[zg9 hp hq] at hc;cases hc
      · rw[zae]
        refine ih ((i+j) / 2+1) j (by omega) (by omega) (fun x hx hix=>?_) h2 (by omega)
        by_cases he:x=(i+j) / 2
        · subst he;exact hc
        · exact zg9 (List.pairwise_iff_getElem.1 hs x ((i+j) / 2) hx hml (by omega)) hc
    · have hij:i=j:=by omega
      subst hij
      have hbs:bsI vs (stA k m)=i:=zid hj h1 (fun h=>h2 i h (Nat.le_refl _))
      rw[decide_eq_false hlt,zaj,zb9 (by omega) (by omega)]
      unfold bsF
      rw[hbs]
      by_cases hi:i<vs.length
      · rw[decide_eq_true hi,zae,zah.2 (show i.succ≤vs.length from hi),zae,znm vs i hi]
        show bi (bi (zax 9 (nmV vs[i])) _ _) _ _=_
        rw[show zax 9 (nmV vs[i])=true from rfl,zae,show zax 3 (nthL [nmV vs[i],i64 vs[i].2.2] 1)=true from rfl,zae,zae]
        rw[show stA (nthL [nmV vs[i],i64 vs[i].2.2] 0).3 (nthL [nmV vs[i],i64 vs[i].2.2] 0).2=nmV vs[i] from rfl,zrM,List.getElem?_eq_getElem hi]
        rfl
      · rw[decide_eq_false hi,zaj,List.getElem?_eq_none (by omega)]
        rfl
theorem zw8(vs:List (Nat × Nat × Nat))(p k m:Nat)(hs:ze1 vs)(hl:vs.length<2 ^ 32):zac Tryz.prog 183 [slP p 2 (vs.map vbA),stA k m,⟨13,184,0,0,0,[]⟩] (tupV [i64 (bsI vs (stA k m)),bV (bsF vs (stA k m))]):=by
  refine zaF mixed globs z2L zw5 z2M z2N zzr zkt [3,4] (vs.length+1) ((s183 _ _ _ _ _).trans ?_)
  rw[zau]
  exact zw7 vs p k m hs hl _ 0 vs.length (by omega) (Nat.le_refl _) (fun x _ h=>by omega) (fun x h h2=>by omega) (by omega)
end Go.Eng
namespace Go.Eng
open Go.RowKit Go.Proofs
noncomputable section
def zeJ(caps:List AV):List AV:=zbK (nthL (nthL caps 0).cs 0)
def zef:Gens:=fun f=>bi (nbeq f 119) (some zeJ) none
def NtW1:Nat→Option Native:=ntL [(183,natB PT 183 fun l=>tupV [i64 (zgZ (nthL l 0).cs (nthL l 1)),bV (ziw (nthL l 0).cs (nthL l 1))]),(186,zpQ)]
def RW1:Rec:=evN PT NtW1 (fun _=>false) 2
def zmF:LabW:=labW [([0,0,1,0,1,1],⟨[2,5,11,12,13],[(5,1,3)]⟩),([9,0,1,1,0,0,1,1,0,0,1,0,1,1],⟨[2,5,11,12,13],[(5,1,3)]⟩)]
def zmG:BR:=finW PT 0 [.tmp 4] [1029]
def NtW2:Nat→Option Native:=ntL [(52,natP PT 52 [26] fun l=>i64 (zez (nthL l 0))),(53,natP PT 53 [26] fun l=>i64 (zed (nthL l 0))),(54,natP PT 54 [26,4] fun l=>i64 (zbA (nthL l 0))),(56,natP PT 56 [22] fun l=>bV (varB (nthL l 0).p))]
def RW2:Rec:=evN PT NtW2 (fun _=>false) 2
def zhD:LabW:=labW [([9,0,1,0,1,1,1,1],⟨[4,6],[]⟩)]
def zfx:BR:=finW PT 0 [.cell 4 32] [0]
end
theorem zw9:zdO PT NtW1:=zg5 (zwr 183 _) (zg5 ztO zcK)
theorem zzs:zaU PT RW1:=zdt mixed zw9 zcz 2
theorem zzt:zaU PT RW2:=zdt mixed (by repeat (first | exact zcK | refine zat ?_)) zcz 2
end Go.Eng
namespace Go.Eng
open Go.RowKit Go.Proofs
set_option maxRecDepth 4000
noncomputable section
def elT(l:List AV)(i:Nat):AV:=aggV [i64 (nthL (elA l i) 0).2,i64 (nthL (elA l i) 1).2,u64 (nthL (elA l i) 2).2,stA (nthL (elA l i) 3).3 (nthL (elA l i) 3).2,slP (nthL (elA l i) 4).2 5 (nthL (elA l i) 4).6]
def tgT(l:List AV)(i:Nat):Bool:=bi (zax 3 (nthL (elA l i) 0)) (bi (zax 3 (nthL (elA l i) 1)) (bi (zax 7 (nthL (elA l i) 2)) (bi (zax 9 (nthL (elA l i) 3)) (bi (zax 37 (nthL (elA l i) 4)) true false) false) false) false) false
def mkV:Nat→Nat→List AV
  | _,0=>[]
  | k,m+1=>i64 (4+k)::mkV (k+1) m
def bkV:Nat→List AV→List AV
  | 0,l=>l
  | m+1,l=>⟨16,4,0,0,0,[]⟩::bkV m l
def stV(m op tp n i vp vr:Nat)(tl vl:List AV):List AV:=[tupV [⟨10,4+m,0,0,0,[]⟩,⟨10,5+m,0,0,0,[]⟩,slP tp 5 tl,i64 n,i64 i],tupV (mkV 0 m),tupV (bkV m [⟨16,1,0,1,0,[i64 op]⟩,⟨16,1,0,1,0,[⟨25,vp,6+m,vr,0,[]⟩]⟩,⟨16,6,2,0,0,vl⟩])]
def outP:List Nat:=[0,0,1,0,1,1]
def innP:List Nat:=[9,0,1,1,0,0,1,1,0,0,1,0,1,1]
def zku(J:Jmp):Jmp:=lblW PT 44 zmF 0 zef RW1 (zad Tryz.f121) zmG J
end
theorem s121(J:Jmp)(op tp:Nat)(tl:List AV):(zbm PT 44 zmF 0 zef J zmG [] (zad Tryz.f121) zmG []).run RW1 (zar 0 [i64 op,slP tp 5 tl] noFr) (zbk PT)=J outP (stV 0 op tp (lenL tl) 0 0 0 tl []):=by kernel_rfl
theorem o121(J:Jmp)(op tp n i vp vr:Nat)(tl vl:List AV):∀ m,m<9→zku J outP (stV m op tp n i vp vr tl vl) =
  (bi (nbeq (bi (nb (nble (biased 3 n) (biased 3 i))) 1 0) 1)
    (bi (nble i.succ (lenL tl))
      (bi (tgT tl i)
        (bi (nbeq (okN (zhT PT 119 [(AV.mk 26 0 0 0 0 [(elT tl i)])] (zeJ [(AV.mk 26 0 0 0 0 [(elT tl i)])]))) 1)
          (J innP (tupV (zeJ [(AV.mk 26 0 0 0 0 [(elT tl i)])])::stV (m+1) op tp n i vp vr tl vl))
          (zab 301))
        (zab 201))
      (zab 205))
    (ansY (tupV [⟨24,bi (nbeq vp 0) 0 1,0,2,0,za4 vr vl⟩,tupV []])))
  | 0,_=>by kernel_rfl | 1,_=>by kernel_rfl | 2,_=>by kernel_rfl | 3,_=>by kernel_rfl | 4,_=>by kernel_rfl | 5,_=>by kernel_rfl | 6,_=>by kernel_rfl | 7,_=>by kernel_rfl | 8,_=>by kernel_rfl
theorem e121(J:Jmp)(op tp n i vp vr:Nat)(tl vl:List AV):∀ m,m<9→zku J innP (tupV []::stV (m+1) op tp n i vp vr tl vl)=J outP (stV (m+1) op tp n (zaR i 1) vp vr tl vl)
  | 0,_=>by kernel_rfl | 1,_=>by kernel_rfl | 2,_=>by kernel_rfl | 3,_=>by kernel_rfl | 4,_=>by kernel_rfl | 5,_=>by kernel_rfl | 6,_=>by kernel_rfl | 7,_=>by kernel_rfl | 8,_=>by kernel_rfl
theorem i121(J:Jmp)(op tp n i vp vr uo uw uv uq un up:Nat)(tl vl ul es:List AV):∀ m,m<9→zku J innP (tupV (tmV uo uw uv uq un up ul::es)::stV (m+1) op tp n i vp vr tl vl) =
  (bi (nbeq (bi (nb (nbeq uo op)) 1 0) 1)
    (J innP (tupV es::stV (m+1) op tp n i vp vr tl vl))
    (bi (nbeq (okN (zac PT 183 [⟨24,bi (nbeq vp 0) 0 1,0,2,0,za4 vr vl⟩,(stA uq un),(AV.mk 13 184 0 0 0 [])] (tupV [(i64 (zgZ (za4 vr vl) (stA uq un))),(mk1 8 (bi (ziw (za4 vr vl) (stA uq un)) 1 0))]))) 1)
      (bi (nbeq (Nat.sub 1 (bi (ziw (za4 vr vl) (stA uq un)) 1 0)) 1)
        (bi (nbeq (bi (nble (zgZ (za4 vr vl) (stA uq un)) vr) (bi (nble (vr.add 1) 100000) 1 0) 0) 1)
          (J innP (tupV es::stV (m+1) op tp n i 1 (vr.add 1) tl (zdc (zgZ (za4 vr vl) (stA uq un)) (aggV [(stA uq un),(i64 uw)]) (za4 vr vl))))
          (zab 0))
        (J innP (tupV es::stV (m+1) op tp n i vp vr tl vl)))
      (zab 301)))
  | 0,_=>by kernel_rfl | 1,_=>by kernel_rfl | 2,_=>by kernel_rfl | 3,_=>by kernel_rfl | 4,_=>by kernel_rfl | 5,_=>by kernel_rfl | 6,_=>by kernel_rfl | 7,_=>by kernel_rfl | 8,_=>by kernel_rfl
end Go.Eng
namespace Go.Eng
open Go.RowKit Go.Proofs
set_option maxRecDepth 4000
theorem zfP(X:List Tm)(i:Nat)(h:i<X.length):elA (X.map tmA) i=[i64 X[i].op,i64 X[i].w,u64 X[i].v,stA X[i].nq X[i].np,slP X[i].p 5 (X[i].as.map tmA)]:=by
  unfold elA;rw[zca tmA X i h];exact zcZ X[i]
theorem zdX(X:List Tm)(i:Nat)(h:i<X.length):elT (X.map tmA) i=tmA X[i]:=by
  unfold elT;rw[zfP X i h];exact zec X[i]
theorem zdY(X:List Tm)(i:Nat)(h:i<X.length):tgT (X.map tmA) i=true:=by
  unfold tgT;rw[zfP X i h];rfl
theorem znn(v:Nat × Nat × Nat):unVb (vbA v)=v:=rfl
theorem zcn(vs:List (Nat × Nat × Nat)):(vs.map vbA).map unVb=vs:=by
  rw[List.map_map]
  conv=>rhs;rw[← List.map_id vs]
  exact List.map_congr_left fun v _=>znn v
noncomputable def insV(vs:List (Nat × Nat × Nat))(v:Nat × Nat × Nat):List (Nat × Nat × Nat):=if bsF vs (nmV v) then vs else vs.take (bsI vs (nmV v))++v::vs.drop (bsI vs (nmV v))
noncomputable def addV(op:Nat)(vs:List (Nat × Nat × Nat))(u:Tm):List (Nat × Nat × Nat):=if u.op=op then insV vs (u.nq,u.np,u.w) else vs
noncomputable def zdM(op:Nat)(vs:List (Nat × Nat × Nat))(es:List Tm):List (Nat × Nat × Nat):=es.foldl (addV op) vs
noncomputable def zb3(op:Nat)(vs:List (Nat × Nat × Nat))(ts:List Tm):List (Nat × Nat × Nat):=ts.foldl (fun vs t=>zdM op vs (preT t)) vs
theorem zv6{α:Type}{p:α→Bool}:∀ (l:List α) (x:Nat) (h:x<l.length),x<(l.takeWhile p).length→p l[x]=true
  | [],x,h,_=>by simp at h
  | a::l,x,h,hx=>by
    rw[List.takeWhile_cons] at hx
    cases hp:p a with
    | false=>rw[hp] at hx;simp at hx
    | true =>
      rw[hp] at hx
      cases x with
      | zero=>exact hp
      | succ x=>exact zv6 l x (by simpa using h) (by simpa using hx)
theorem zv7{α:Type}{p:α→Bool}:∀ (l:List α) (n:Nat),n=(l.takeWhile p).length→∀ h:n<l.length,p l[n]=false
  | [],n,_,h=>by simp at h
  | a::l,n,e,h=>by
    rw[List.takeWhile_cons] at e
    cases hp:p a with
    | false=>rw[hp] at e;have e:n=0:=e;subst e;exact hp
    | true =>
      rw[hp] at e
      have e:n=(l.takeWhile p).length+1:=e
      subst e
      exact zv7 l _ rfl (by simpa using h)
theorem zv8{α:Type}{p:α→Bool}:∀ (l:List α),(l.takeWhile p).length≤l.length
  | []=>Nat.le_refl _
  | a::l=>by
    rw[List.takeWhile_cons]
    have:=zv8 (p:=p) l
    cases p a
    · simp
    · simpa using this
theorem zno(vs:List (Nat × Nat × Nat))(t:AV):bsI vs t≤vs.length:=zv8 _
theorem zzu{vs:List (Nat × Nat × Nat)}{t:AV}:∀ (x:Nat) (h:x<vs.length),x<bsI vs t→zbp (nmV vs[x]) t=true:=fun x h hx=>zv6 (p:=fun v=>zbp (nmV v) t) vs x h hx
theorem zzv{vs:List (Nat × Nat × Nat)}{t:AV}(h:bsI vs t<vs.length):zbp (nmV vs[bsI vs t]) t=false:=zv7 (p:=fun v=>zbp (nmV v) t) vs _ rfl h
theorem ztT(vs:List (Nat × Nat × Nat))(v:Nat × Nat × Nat):(insV vs v).length≤vs.length+1:=by
  unfold insV
  split
  · omega
  · rw[List.length_append,List.length_cons,List.length_take,List.length_drop];omega
theorem zkv{vs:List (Nat × Nat × Nat)}{v:Nat × Nat × Nat}(hs:ze1 vs):ze1 (insV vs v):=by
  unfold insV
  split
  · exact hs
  · rename_i hf
    have hle:=zno vs (nmV v)
    have hgt:∀ (x:Nat) (h:x<vs.length),bsI vs (nmV v)≤x→zbp (nmV v) (nmV vs[x])=true:=by
      intro x h hx
      have hi:bsI vs (nmV v)<vs.length:=by omega
      have h1:=zzv hi
      have h2:zbp (nmV v) (nmV vs[bsI vs (nmV v)])=true:=by
        cases hq:zbp (nmV v) (nmV vs[bsI vs (nmV v)])
        · exfalso
          have:=zkl h1 hq
          apply hf
          unfold bsF
          rw[List.getElem?_eq_getElem hi]
          exact decide_eq_true this
        · rfl
      by_cases he:x=bsI vs (nmV v)
      · subst he;exact h2
      · exact zg9 h2 (List.pairwise_iff_getElem.1 hs _ x hi h (by omega))
    unfold ze1
    rw[List.pairwise_append,List.pairwise_cons]
    refine⟨hs.sublist (List.take_sublist _ _),⟨fun a ha=>?_,hs.sublist (List.drop_sublist _ _)⟩,fun a ha b hb=>?_⟩
    · obtain⟨x,hx,rfl⟩:=List.mem_iff_getElem.1 ha
      rw[List.length_drop] at hx
      rw[List.getElem_drop]
      exact hgt _ (by omega) (by omega)
    · obtain⟨x,hx,rfl⟩:=List.mem_iff_getElem.1 ha
      rw[List.length_take] at hx
      rw[List.getElem_take]
      have h1:=zzu (vs:=vs) (t:=nmV v) x (by omega) (by omega)
      rcases List.mem_cons.1 hb with rfl | hb
      · exact h1
      · obtain⟨y,hy,rfl⟩:=List.mem_iff_getElem.1 hb
        rw[List.length_drop] at hy
        rw[List.getElem_drop]
        exact List.pairwise_iff_getElem.1 hs x _ (by omega) (by omega) (by omega)
theorem zpU{op:Nat}{vs:List (Nat × Nat × Nat)}{u:Tm}(hs:ze1 vs):ze1 (addV op vs u):=by
  unfold addV;split
  · exact zkv hs
  · exact hs
theorem ztU(op:Nat)(vs:List (Nat × Nat × Nat))(u:Tm):(addV op vs u).length≤vs.length+1:=by
  unfold addV;split
  · exact ztT _ _
  · omega
theorem znp{op:Nat}:∀ {es:List Tm} {vs:List (Nat × Nat × Nat)},ze1 vs→ze1 (zdM op vs es)∧(zdM op vs es).length≤vs.length+es.length:=by
  intro es
  induction es with
  | nil=>intro vs h;exact⟨h,Nat.le_refl _⟩
  | cons e es ih =>
    intro vs h
    obtain⟨h1,h2⟩:=ih (zpU (op:=op) (u:=e) h)
    refine⟨h1,Nat.le_trans h2 ?_⟩
    have:=ztU op vs e
    simp only[List.length_cons];omega
noncomputable def vpOf(vs:List (Nat × Nat × Nat)):Nat:=if vs.length=0 then 0 else 1
noncomputable def J121(n:Nat):Jmp:=jmpW PT 44 zmF 0 zef RW1 (zad Tryz.f121) zmG n
theorem zgw(n:Nat)(q:List Nat)(ds:List AV):J121 (n+1) q ds=zku (J121 n) q ds:=rfl
theorem znq(vs:List (Nat × Nat × Nat)):za4 vs.length (vs.map vbA)=vs.map vbA:=by
  rw[zbv,List.take_of_length_le (by rw[List.length_map];exact Nat.le_refl _)]
theorem ztV(i:Nat)(v:Nat × Nat × Nat)(vs:List (Nat × Nat × Nat)):zdc i (vbA v) (vs.map vbA)=(vs.take i++v::vs.drop i).map vbA:=by
  rw[zfN,List.map_append,List.map_cons,List.map_take,List.map_drop]
theorem ztW(op tp n i m:Nat)(tl:List AV)(hm:m<9)(k:Nat):∀ (es:List Tm) (vs:List (Nat × Nat × Nat)),ze1 vs→vs.length+es.length≤90000 →
    J121 (k+es.length) innP (tupV (es.map tmA)::stV (m+1) op tp n i (vpOf vs) vs.length tl (vs.map vbA))=J121 k innP (tupV []::stV (m+1) op tp n i (vpOf (zdM op vs es)) (zdM op vs es).length tl ((zdM op vs es).map vbA)):=by
  intro es
  induction es with
  | nil=>intro vs _ _;rfl
  | cons e es ih =>
    intro vs hs hl
    simp only[List.length_cons] at hl
    have h1:J121 (k+(e::es).length)=J121 ((k+es.length)+1):=rfl
    rw[h1,zgw,List.map_cons]
    have he:tmA e=tmV e.op e.w e.v e.nq e.np e.p (e.as.map tmA):=by cases e;rw[zaP];rfl
    rw[he,i121 _ _ _ _ _ _ _ _ _ _ _ _ _ _ _ _ _ m hm,znq]
    have q:=zak.2 (zw8 vs (bi (nbeq (vpOf vs) 0) 0 1) e.nq e.np hs (by omega))
    have e1:zgZ (vs.map vbA) (stA e.nq e.np)=bsI vs (stA e.nq e.np):=by unfold zgZ;rw[zcn]
    have e2:ziw (vs.map vbA) (stA e.nq e.np)=bsF vs (stA e.nq e.np):=by unfold ziw;rw[zcn]
    rw[e1,e2]
    have q':okN (zac PT 183 [⟨24,bi (nbeq (vpOf vs) 0) 0 1,0,2,0,vs.map vbA⟩,(stA e.nq e.np),(AV.mk 13 184 0 0 0 [])] (tupV [(i64 (bsI vs (stA e.nq e.np))),(mk1 8 (bi (bsF vs (stA e.nq e.np)) 1 0))]))=1:=q
    rw[q',n11,zae,zao,zaH]
    have hcons:zdM op vs (e::es)=zdM op (addV op vs e) es:=rfl
    rw[hcons]
    by_cases hop:e.op=op
    · rw[decide_eq_true hop,nb_t,zaj]
      have ha:addV op vs e=insV vs (e.nq,e.np,e.w):=by unfold addV;rw[if_pos hop]
      rw[ha]
      have hnm:nmV (e.nq,e.np,e.w)=stA e.nq e.np:=rfl
      cases hf:bsF vs (stA e.nq e.np)
      · rw[show (nbeq (Nat.sub 1 (bi false 1 0)) 1)=true from rfl,zae,zah.2 (zno vs _),zae,zah.2 (show vs.length.add 1≤100000 by show vs.length+1≤100000;omega),zae,n11,zae]
        have hi:insV vs (e.nq,e.np,e.w)=vs.take (bsI vs (stA e.nq e.np))++(e.nq,e.np,e.w)::vs.drop (bsI vs (stA e.nq e.np)):=by
          unfold insV;rw[hnm,hf];rfl
        have hlen:(insV vs (e.nq,e.np,e.w)).length=vs.length+1:=by
          have:=zno vs (stA e.nq e.np)
          rw[hi,List.length_append,List.length_cons,List.length_take,List.length_drop];omega
        have:=ih (insV vs (e.nq,e.np,e.w)) (zkv hs) (by omega)
        rw[show aggV [stA e.nq e.np,i64 e.w]=vbA (e.nq,e.np,e.w) from rfl,ztV,← hi]
        have hv1:vpOf (insV vs (e.nq,e.np,e.w))=1:=by unfold vpOf;rw[if_neg (by omega)]
        rw[hv1,hlen] at this
        exact this
      · rw[show (nbeq (Nat.sub 1 (bi true 1 0)) 1)=false from rfl,zaj]
        have hi:insV vs (e.nq,e.np,e.w)=vs:=by unfold insV;rw[hnm,hf];rfl
        rw[hi]
        exact ih vs hs (by omega)
    · rw[decide_eq_false hop,nb_f,zae]
      have ha:addV op vs e=vs:=by unfold addV;rw[if_neg hop]
      rw[ha]
      exact ih vs hs (by omega)
noncomputable def preN(ts:List Tm):Nat:=(ts.map fun t=>(preT t).length).sum
theorem ztX(op p:Nat)(X:List Tm)(hX:X.length≤8)(hlen:∀ t ∈ X,zch t):∀ (d i:Nat),i+d=X.length→∀ (vs:List (Nat × Nat × Nat)),ze1 vs→vs.length+preN (X.drop i)≤90000 →
    ∃ n0,∀ k,J121 (k+n0) outP (stV i op p X.length i (vpOf vs) vs.length (X.map tmA) (vs.map vbA))=ansY (tupV [slP (vpOf (zb3 op vs (X.drop i))) 2 ((zb3 op vs (X.drop i)).map vbA),tupV []]):=by
  intro d
  induction d with
  | zero =>
    intro i hi vs hs hl
    refine⟨1,fun k=>?_⟩
    rw[zgw,o121 _ _ _ _ _ _ _ _ _ i (by omega),zao,zb9 (by omega) (by omega),decide_eq_false (by omega),zaj,znq,show i=X.length by omega,List.drop_length]
    have:bi (nbeq (vpOf vs) 0) 0 1=vpOf vs:=by unfold vpOf;split<;>rfl
    rw[this];rfl
  | succ d ih =>
    intro i hi vs hs hl
    have hlt:i<X.length:=by omega
    have hdr:X.drop i=X[i]::X.drop (i+1):=List.drop_eq_getElem_cons hlt
    have hpn:preN (X.drop i)=(preT X[i]).length+preN (X.drop (i+1)):=by rw[hdr];unfold preN;rw[List.map_cons,List.sum_cons]
    obtain⟨h1,h2⟩:=znp (op:=op) (es:=preT X[i]) hs
    obtain⟨n0,hn0⟩:=ih (i+1) (by omega) (zdM op vs (preT X[i])) h1 (by omega)
    refine⟨n0+1+(preT X[i]).length+1,fun k=>?_⟩
    rw[show k+(n0+1+(preT X[i]).length+1)=((k+n0+1)+(preT X[i]).length)+1 by omega,zgw,o121 _ _ _ _ _ _ _ _ _ i (by omega),zao,zb9 (by omega) (by omega),decide_eq_true hlt,zae,zau,zah.2 (show i.succ≤X.length from hlt),zae,zdY X i hlt,zae,zdX X i hlt]
    have e1:zeJ [(AV.mk 26 0 0 0 0 [tmA X[i]])]=(preT X[i]).map tmA:=by
      show zbK (tmA X[i])=_
      unfold zbK;rw[zaZ]
    have q:=zak.2 (zrG X[i] (hlen _ (List.getElem_mem hlt)))
    rw[e1,q,n11,zae,ztW op p X.length i i (X.map tmA) (by omega) (k+n0+1) (preT X[i]) vs hs (by omega),zgw,e121 _ _ _ _ _ _ _ _ _ i (by omega),zcf (by omega),hn0 k,hdr]
    rfl
theorem zwA:Tryz.f121.body=some (zad Tryz.f121):=by kernel_rfl
theorem z2O:Tryz.prog.funcs[121]?=some Tryz.f121:=by kernel_rfl
theorem znr:∀ f g,zef f=some g→∃ fn,PT.funcs[f]?=some fn∧fn.body.isNone=false:=by
  intro f g h
  unfold zef at h
  cases hb:nbeq f 119
  · rw[hb] at h;cases h
  · have:=zaa.1 hb;subst this
    exact⟨Tryz.f119,by kernel_rfl,by kernel_rfl⟩
theorem zoH(op p:Nat)(X:List Tm)(hX:X.length≤8)(hlen:∀ t ∈ X,zch t)(hl:preN X≤90000):zac PT 121 [i64 op,slP p 5 (X.map tmA)] (slP (vpOf (zb3 op [] X)) 2 ((zb3 op [] X).map vbA)):=by
  obtain⟨n0,hn0⟩:=ztX op p X hX hlen X.length 0 (by omega) [] List.Pairwise.nil (by simpa using hl)
  refine zfo globs ?_ rfl
  refine zht (n:=0+n0) (nrm:=[1029]) mixed zcz z2O zwA zzs znr (lab:=zmF) (bs:=[]) (bs':=[]) (fn:=Tryz.f121) ?_
  have h:=s121 (J121 (0+n0)) op p (X.map tmA)
  rw[zau] at h
  have h0:=hn0 0
  rw[show (vpOf [])=0 from rfl,List.drop_zero] at h0
  exact h.trans h0
end Go.Eng
