/- A part of the proof that the evaluator in GnC, and the driver in GnZ, answer as the model does; no conditions. -/
import Derived.Test.YtfmoohdaimlggaaGreatDoorGnWd
import Derived.Test.YtfmoohdaimlggaaGreatDoorGnHa
namespace Go.Eng
open Go.RowKit Go.Proofs
noncomputable section
mutual
noncomputable def preT:Tm→List Tm
  | .mk op w v nq np p l=>.mk op w v nq np p l::zb8 l
noncomputable def zb8:List Tm→List Tm
  | []=>[]
  | a::l=>preT a++zb8 l
end
noncomputable def regO(n:Nat)(c:Code):Option (Array Oper):=match c with
  | .region k ops _=>if k=n then some ops else none
  | .seq a b=>(regO n a).or (regO n b)
  | .cond _ a b=>(regO n a).or (regO n b)
  | .block _ a=>regO n a
  | .loop a=>regO n a
  | .scope a=>regO n a
  | _=>none
def rg(n:Nat):Array Oper:=(regO n (zad Tryz.f120)).getD #[]
def qc:Code:=((Code.region 0 (rg 0) false).seq (((Code.region 1 (rg 1) false).seq (Code.cond (Operand.tmp 10) ((Code.region 2 (rg 2) false).seq Code.ret) Code.skip)).seq (((Code.region 3 (rg 3) false).seq (Code.block 0 ((Code.region 4 (rg 4) false).seq ((Code.cond (Operand.tmp 15) Code.skip (Code.exit 0)).seq ((Code.block 1 ((Code.region 5 (rg 5) false).seq ((Code.region 6 (rg 6) false).seq (Code.cond (Operand.tmp 21) ((Code.region 7 (rg 7) false).seq Code.ret) Code.skip)))).seq (Code.region 8 (rg 8) false)))).loop)).seq ((Code.region 9 (rg 9) false).seq Code.ret))))
noncomputable def opO(q:Array Oper)(i:Nat):Oper:=(q[i]?).getD ⟨none,.alloc 0,0,"",#[],none⟩
abbrev PT:Program:=Tryz.prog
def K1_2:BR:=opK PT 23 (opO (rg 1) 1) mkK
def K1_1:BR:=opK PT 23 (opO (rg 1) 0) K1_2
def K1:BR:=opsK PT 23 (rg 0) (rg 0).toList K1_1
def K2:BR:=opK PT 23 (opO (rg 1) 3) mkK
def K2g:BR:=opK PT 23 (opO (rg 1) 3) mkK
def K2t:BR:=opsK PT 23 (rg 2) (rg 2).toList mkK
def K3:BR:=opsK PT 23 (rg 3) (rg 3).toList mkK
def K4:BR:=opsK PT 23 (rg 4) (rg 4).toList mkK
def K5:BR:=opK PT 23 (opO (rg 5) 0) mkK
def K6_4:BR:=opK PT 23 (opO (rg 6) 1) mkK
def K6_3:BR:=opK PT 23 (opO (rg 6) 0) K6_4
def K6_2:BR:=opK PT 23 (opO (rg 5) 3) K6_3
def K6_1:BR:=opK PT 23 (opO (rg 5) 2) K6_2
def K6:BR:=opK PT 23 (opO (rg 5) 1) K6_1
def K7:BR:=opK PT 23 (opO (rg 6) 3) mkK
def K7g:BR:=opK PT 23 (opO (rg 6) 3) mkK
def K7t:BR:=opsK PT 23 (rg 7) (rg 7).toList mkK
def K8:BR:=opsK PT 23 (rg 8) (rg 8).toList mkK
def K9:BR:=opsK PT 23 (rg 9) (rg 9).toList mkK
def M1(A:AV):RL:=K1.run R0 (zar 0 [A,cbA] noFr) (zaf PT)
def F2(A:AV):Fr:=frL [(1,cbA),(2,⟨26,0,0,0,0,[A]⟩),(9,bV true)]
def M2(A:AV):RL:=K2.run R0 (F2 A) (zaf PT)
def F2f:Fr:=frL [(9,bV false)]
def M2g:RL:=K2g.run R0 F2f (zaf PT)
def M2t:RL:=K2t.run R0 (resT M2g) (zaf PT)
def M3(A:AV):RL:=K3.run R0 (resT (M2 A)) (zaf PT)
def F4(X:List AV)(p j:Nat):Fr:=frL [(1,cbA),(12,slP p 5 X),(13,i64 (lenL X)),(14,i64 j)]
def M4(X:List AV)(p j:Nat):RL:=K4.run R0 (F4 X p j) (zaf PT)
def F5(X:List AV)(p j:Nat)(A:AV):Fr:=(setB 16).run (resT (M4 X p j)) ⟨26,0,0,0,0,[A]⟩
def M6(X:List AV)(p j:Nat)(A:AV):RL:=K6.run R0 (F5 X p j A) (zaf PT)
def F7(X:List AV)(p j:Nat):Fr:=frL [(1,cbA),(12,slP p 5 X),(13,i64 (lenL X)),(14,i64 j),(20,bV true)]
def M7(X:List AV)(p j:Nat):RL:=K7.run R0 (F7 X p j) (zaf PT)
def F7f:Fr:=frL [(20,bV false)]
def M7g:RL:=K7g.run R0 F7f (zaf PT)
def M7t:RL:=K7t.run R0 (resT M7g) (zaf PT)
def M8(X:List AV)(p j:Nat):RL:=K8.run R0 (resT (M7 X p j)) (zaf PT)
def M9(X:List AV)(p j:Nat):RL:=K9.run R0 (resT (M4 X p j)) (zaf PT)
end
theorem zyX:K1_2=opK PT 23 (opO (rg 1) 1) mkK:=rfl
theorem zyY:K1_1=opK PT 23 (opO (rg 1) 0) K1_2:=rfl
theorem K1_e:K1=opsK PT 23 (rg 0) (rg 0).toList K1_1:=rfl
theorem K2_e:K2=opK PT 23 (opO (rg 1) 3) mkK:=rfl
theorem z2d:K2g=opK PT 23 (opO (rg 1) 3) mkK:=rfl
theorem z2e:K2t=opsK PT 23 (rg 2) (rg 2).toList mkK:=rfl
theorem K3_e:K3=opsK PT 23 (rg 3) (rg 3).toList mkK:=rfl
theorem K4_e:K4=opsK PT 23 (rg 4) (rg 4).toList mkK:=rfl
theorem K5_e:K5=opK PT 23 (opO (rg 5) 0) mkK:=rfl
theorem zyZ:K6_4=opK PT 23 (opO (rg 6) 1) mkK:=rfl
theorem zza:K6_3=opK PT 23 (opO (rg 6) 0) K6_4:=rfl
theorem zzb:K6_2=opK PT 23 (opO (rg 5) 3) K6_3:=rfl
theorem zzc:K6_1=opK PT 23 (opO (rg 5) 2) K6_2:=rfl
theorem K6_e:K6=opK PT 23 (opO (rg 5) 1) K6_1:=rfl
theorem K7_e:K7=opK PT 23 (opO (rg 6) 3) mkK:=rfl
theorem z2f:K7g=opK PT 23 (opO (rg 6) 3) mkK:=rfl
theorem z2g:K7t=opsK PT 23 (rg 7) (rg 7).toList mkK:=rfl
theorem K8_e:K8=opsK PT 23 (rg 8) (rg 8).toList mkK:=rfl
theorem K9_e:K9=opsK PT 23 (rg 9) (rg 9).toList mkK:=rfl
theorem h1_0:(rg 1)[0]?=some (opO (rg 1) 0):=by kernel_rfl
theorem g1_0:(opO (rg 1) 0).guard=none:=by kernel_rfl
theorem h1_1:(rg 1)[1]?=some (opO (rg 1) 1):=by kernel_rfl
theorem g1_1:(opO (rg 1) 1).guard=none:=by kernel_rfl
theorem h1_2:(rg 1)[2]?=some (opO (rg 1) 2):=by kernel_rfl
theorem g1_2:(opO (rg 1) 2).guard=none:=by kernel_rfl
theorem h1_3:(rg 1)[3]?=some (opO (rg 1) 3):=by kernel_rfl
theorem g1_3:(opO (rg 1) 3).guard=none:=by kernel_rfl
theorem h5_0:(rg 5)[0]?=some (opO (rg 5) 0):=by kernel_rfl
theorem g5_0:(opO (rg 5) 0).guard=none:=by kernel_rfl
theorem h5_1:(rg 5)[1]?=some (opO (rg 5) 1):=by kernel_rfl
theorem g5_1:(opO (rg 5) 1).guard=none:=by kernel_rfl
theorem h5_2:(rg 5)[2]?=some (opO (rg 5) 2):=by kernel_rfl
theorem g5_2:(opO (rg 5) 2).guard=none:=by kernel_rfl
theorem h5_3:(rg 5)[3]?=some (opO (rg 5) 3):=by kernel_rfl
theorem g5_3:(opO (rg 5) 3).guard=none:=by kernel_rfl
theorem h6_0:(rg 6)[0]?=some (opO (rg 6) 0):=by kernel_rfl
theorem g6_0:(opO (rg 6) 0).guard=none:=by kernel_rfl
theorem h6_1:(rg 6)[1]?=some (opO (rg 6) 1):=by kernel_rfl
theorem g6_1:(opO (rg 6) 1).guard=none:=by kernel_rfl
theorem h6_2:(rg 6)[2]?=some (opO (rg 6) 2):=by kernel_rfl
theorem g6_2:(opO (rg 6) 2).guard=none:=by kernel_rfl
theorem h6_3:(rg 6)[3]?=some (opO (rg 6) 3):=by kernel_rfl
theorem g6_3:(opO (rg 6) 3).guard=none:=by kernel_rfl
theorem c12:(opO (rg 1) 2).op=.call { callee:=.value (.tmp 7),args:=#[.tmp 8],argTypes:=#[26] }:=by kernel_rfl
theorem c62:(opO (rg 6) 2).op=.call { callee:=.value (.func 120),args:=#[.tmp 18,.tmp 19],argTypes:=#[26,108] }:=by kernel_rfl
theorem d12:(opO (rg 1) 2).dst=some 9:=by kernel_rfl
theorem d62:(opO (rg 6) 2).dst=some 20:=by kernel_rfl
theorem sz1:List.range (rg 1).size=[0,1,2,3]:=by kernel_rfl
theorem sz5:List.range (rg 5).size=[0,1,2,3]:=by kernel_rfl
theorem sz6:List.range (rg 6).size=[0,1,2,3]:=by kernel_rfl
theorem zkm:Tryz.prog.funcs[120]?=some Tryz.f120:=by kernel_rfl
theorem zlf:Tryz.f120.body=some qc:=by kernel_rfl
theorem z2h:Tryz.f120.results.toList=[.tmp 4]:=by kernel_rfl
theorem z2i:Tryz.f120.ntmps=23:=by kernel_rfl
section eqs
variable (op w v nq np p j:Nat) (X:List AV) (b:Bool)
theorem m1:K1.run R0 (zar 0 [tmV op w v nq np p X,cbA] noFr) (zaf PT)=[⟨9,0,resT (M1 (tmV op w v nq np p X)),resH (M1 (tmV op w v nq np p X))⟩]:=by kernel_rfl
theorem m1_7:(getB 7).run (resT (M1 (tmV op w v nq np p X)))=cbA:=by kernel_rfl
theorem m1_1:(getB 1).run (resT (M1 (tmV op w v nq np p X)))=cbA:=by kernel_rfl
theorem m1_8:(getB 8).run (resT (M1 (tmV op w v nq np p X)))=tmV op w v nq np p X:=by kernel_rfl
theorem m1_c:zhp ((getB 2).run (resT (M1 (tmV op w v nq np p X)))) (resH (M1 (tmV op w v nq np p X)))=some (⟨26,0,0,0,0,[tmV op w v nq np p X]⟩,hset (resH (M1 (tmV op w v nq np p X))) ((getB 2).run (resT (M1 (tmV op w v nq np p X)))).p noB):=by kernel_rfl
theorem m1_m:zaK (resT (M1 (tmV op w v nq np p X)))=[]:=by kernel_rfl
theorem m2:K2.run R0 (F2 (tmV op w v nq np p X)) (zaf PT)=[⟨9,0,resT (M2 (tmV op w v nq np p X)),zaf PT⟩]:=by kernel_rfl
theorem z2j:(getB 10).run (resT (M2 (tmV op w v nq np p X)))=bV false:=by kernel_rfl
theorem m2g:K2g.run R0 F2f (zaf PT)=[⟨9,0,resT M2g,zaf PT⟩]:=by kernel_rfl
theorem zzd:(getB 10).run (resT M2g)=bV true:=by kernel_rfl
theorem m2t:K2t.run R0 (resT M2g) (zaf PT)=[⟨9,0,resT M2t,zaf PT⟩]:=by kernel_rfl
theorem z2k:(getB 4).run (resT M2t)=bV false:=by kernel_rfl
theorem z2l:zaK (resT M2t)=[]:=by kernel_rfl
theorem m3_m:zaK (resT (M3 (tmV op w v nq np p X)))=[]:=by kernel_rfl
theorem m3:K3.run R0 (resT (M2 (tmV op w v nq np p X))) (zaf PT)=[⟨9,0,resT (M3 (tmV op w v nq np p X)),zaf PT⟩]:=by kernel_rfl
theorem m3_1:(getB 1).run (resT (M3 (tmV op w v nq np p X)))=cbA:=by kernel_rfl
theorem zvo:(getB 12).run (resT (M3 (tmV op w v nq np p X)))=slP p 5 X:=by kernel_rfl
theorem zvp:(getB 13).run (resT (M3 (tmV op w v nq np p X)))=i64 (lenL X):=by kernel_rfl
theorem zvq:(getB 14).run (resT (M3 (tmV op w v nq np p X)))=i64 0:=by kernel_rfl
theorem m4:K4.run R0 (F4 X p j) (zaf PT)=[⟨9,0,resT (M4 X p j),zaf PT⟩]:=by kernel_rfl
theorem z2m:(getB 15).run (resT (M4 X p j))=bV (nb (nble (biased 3 (lenL X)) (biased 3 j))):=by kernel_rfl
theorem m5:K5.run R0 (resT (M4 X p j)) (zaf PT)=bi (nble (Nat.succ j) (lenL X)) [⟨9,0,F5 X p j (nthL X j),zaf PT⟩] (zab 205):=by kernel_rfl
theorem m6(Y:List AV)(r:Nat):K6.run R0 (F5 Y r j (tmV op w v nq np p X)) (zaf PT)=[⟨9,0,resT (M6 Y r j (tmV op w v nq np p X)),resH (M6 Y r j (tmV op w v nq np p X))⟩]:=by kernel_rfl
theorem zvr(Y:List AV)(r:Nat):(getB 18).run (resT (M6 Y r j (tmV op w v nq np p X)))=tmV op w v nq np p X:=by kernel_rfl
theorem z2n(Y:List AV)(r:Nat):(getB 19).run (resT (M6 Y r j (tmV op w v nq np p X)))=cbA:=by kernel_rfl
theorem m6_1(Y:List AV)(r:Nat):(getB 1).run (resT (M6 Y r j (tmV op w v nq np p X)))=cbA:=by kernel_rfl
theorem zvs(Y:List AV)(r:Nat):(getB 12).run (resT (M6 Y r j (tmV op w v nq np p X)))=slP r 5 Y:=by kernel_rfl
theorem zvt(Y:List AV)(r:Nat):(getB 13).run (resT (M6 Y r j (tmV op w v nq np p X)))=i64 (lenL Y):=by kernel_rfl
theorem zvu(Y:List AV)(r:Nat):(getB 14).run (resT (M6 Y r j (tmV op w v nq np p X)))=i64 j:=by kernel_rfl
theorem m6_m(Y:List AV)(r:Nat):zaK (resT (M6 Y r j (tmV op w v nq np p X)))=[]:=by kernel_rfl
theorem m7:K7.run R0 (F7 X p j) (zaf PT)=[⟨9,0,resT (M7 X p j),zaf PT⟩]:=by kernel_rfl
theorem z2o:(getB 21).run (resT (M7 X p j))=bV false:=by kernel_rfl
theorem m7g:K7g.run R0 F7f (zaf PT)=[⟨9,0,resT M7g,zaf PT⟩]:=by kernel_rfl
theorem zze:(getB 21).run (resT M7g)=bV true:=by kernel_rfl
theorem m7t:K7t.run R0 (resT M7g) (zaf PT)=[⟨9,0,resT M7t,zaf PT⟩]:=by kernel_rfl
theorem z2p:(getB 4).run (resT M7t)=bV false:=by kernel_rfl
theorem m8_m:zaK (resT (M8 X p j))=[]:=by kernel_rfl
theorem m9_m:zaK (resT (M9 X p j))=[]:=by kernel_rfl
theorem z2q:zaK (resT M7t)=[]:=by kernel_rfl
theorem m8:K8.run R0 (resT (M7 X p j)) (zaf PT)=[⟨9,0,resT (M8 X p j),zaf PT⟩]:=by kernel_rfl
theorem m8_1:(getB 1).run (resT (M8 X p j))=cbA:=by kernel_rfl
theorem zvv:(getB 12).run (resT (M8 X p j))=slP p 5 X:=by kernel_rfl
theorem zvw:(getB 13).run (resT (M8 X p j))=i64 (lenL X):=by kernel_rfl
theorem zvx:(getB 14).run (resT (M8 X p j))=i64 (gt2 (fun a b=>Nat.mod (Nat.add a b) (kMod 3)) j 1):=by kernel_rfl
theorem m9:K9.run R0 (resT (M4 X p j)) (zaf PT)=[⟨9,0,resT (M9 X p j),zaf PT⟩]:=by kernel_rfl
theorem m9_4:(getB 4).run (resT (M9 X p j))=bV true:=by kernel_rfl
end eqs
end Go.Eng
namespace Go.Eng
open Go.RowKit Go.Proofs
theorem zda{a:Act}{d t:Nat}{v:Value}:(a.put (some d) v).tmps.getD t undef=if d=t∧d<a.tmps.size then v else a.tmps.getD t undef:=by
  show (a.tmps.setIfInBounds d v).getD t undef=_
  have e:∀ (x:Array Value),x.getD t undef=(x[t]?).getD undef:=fun x=>by simp
  rw[e,e,Array.getElem?_setIfInBounds]
  by_cases h:d=t
  · subst h
    by_cases h2:d<a.tmps.size
    · rw[if_pos rfl,if_pos h2,if_pos ⟨rfl,h2⟩];rfl
    · rw[if_pos rfl,if_neg h2,if_neg (fun h=>h2 h.2)]
      simp[h2]
  · rw[if_neg h,if_neg (fun hh=>h hh.1)]
theorem zhB{φ:Ph}(b:Bool):VR φ (bV b) (.bool b):=zb7 b
theorem VR.bV{φ:Ph}{b:Bool}{v:Value}(h:VR φ (bV b) v):v=.bool b:=by
  obtain⟨b',e,h1,_⟩:=h.of_bool (show (Go.Eng.bV b).tag=8 from rfl)
  rw[e]
  have h1:bi b 1 0=bi b' 1 0:=h1
  cases b<;>cases b'<;>first | rfl | cases h1
theorem zpS(l:List Tm)(j:Nat)(h:j<l.length):(zb8 (l.take (j+1))).length=(zb8 (l.take j)).length+(preT l[j]).length:=by
  induction l generalizing j with
  | nil=>simp at h
  | cons a l ih =>
    cases j with
    | zero=>simp[zb8]
    | succ j =>
      have:=ih j (by simpa using h)
      simp only[List.take_succ_cons,zb8,List.length_append,List.getElem_cons_succ]
      omega
theorem zop(l:List Tm)(j:Nat)(h:j<l.length):zb8 l=zb8 (l.take j)++(preT l[j]++zb8 (l.drop (j+1))):=by
  induction l generalizing j with
  | nil=>simp at h
  | cons a l ih =>
    cases j with
    | zero=>simp[zb8]
    | succ j =>
      have:=ih j (by simpa using h)
      simp only[List.take_succ_cons,zb8,List.drop_succ_cons,List.getElem_cons_succ]
      rw[this];simp[List.append_assoc]
def zch(t:Tm):Prop:=t.All fun _ _ _ _ _ _ l=>l.length<2 ^ 63
section visit
variable {cb:Value} {es:List AV} {J:Nat→(Nat→Option (List Value))→World→Prop} {E:World→Prop}
def zjd(J:Nat→(Nat→Option (List Value))→World→Prop)(E:World→Prop)(z:Nat→Option (List Value))(n:Nat):Ending→World→Prop:=fun e W' =>
  (e=.returned (.bool true)∧∃ z',(∀ x C,z x=some C→z' x=some C)∧J n z' W') ∨ (e=.returned (.bool false)∧E W')
theorem zlg{a:Act}{w w0:World}{T:Fr}{H H0:Hp}{φ φ0:Ph}{R:Ending→World→Prop}{b:Bool}(hs:St PT w0 23 H0 φ0 T H φ a w)(hd:a.defers=[])(h4:(getB 4).run T=bV b)(hR:R (.returned (.bool b)) w) :
    LeavesInM (fen none) 0 PT Tryz.f120 a.tmps R a.defers .returning w:=by
  rw[hd]
  have hv:(zbM PT Tryz.f120.results.toList).run T H=some (bV b):=by rw[z2h,← h4];rfl
  obtain⟨val,h3,h5⟩:=zdN hs.tr hs.hr hv
  have:=h5.bV
  subst this
  exact⟨_,h3,hR⟩
theorem ztR(hcb:CbOk PT cb es J E):∀ (t:Tm),zch t→∀ (i:Nat) (rest:List AV) (z:Nat→Option (List Value)) (w:World) (vp:Value),es.drop i=(preT t).map tmA++rest→J i z w→FV z (tmA t) vp →
    Calls PT 120 #[vp,cb] w (zjd J E z (i+(preT t).length)):=by
  intro t
  induction t using Tm.ind with
  | h op ww v nq np p l ih =>
  intro hlen i rest z w vp hes hJ hvp
  have hlenl:l.length<2 ^ 63∧∀ t ∈ l,zch t:=by
    cases hlen with | mk h1 h2=>exact⟨h1,h2⟩
  rw[zaP] at hvp
  obtain⟨hz0,hw0⟩:=hcb.hold _ _ _ hJ
  have he0:es[i]?=some (tmV op ww v nq np p (l.map tmA)):=by
    have:(es.drop i)[0]?=some (tmV op ww v nq np p (l.map tmA)):=by rw[hes,preT,← zaP];rfl
    rw[List.getElem?_drop] at this
    simpa using this
  refine zeq (ro:=none) (n:=0) (callsIn_of_wp_marks zkm zlf trivial ?_)
  have hst:St PT w 23 (zaf PT) (phc PT z cb) (zar 0 [tmV op ww v nq np p (l.map tmA),cbA] noFr) (zaf PT) (phc PT z cb) { tmps:=#[vp,cb]++Array.replicate (Tryz.f120.ntmps - (#[vp,cb]:Array Value).size) undef,defers:=[] } w:=by
    have hb:=zhu (P:=PT) (cb:=cb) globs hz0 hw0
    have:=zfC (P:=PT) (φ:=phc PT z cb) (args:=[tmV op ww v nq np p (l.map tmA),cbA]) (vals:=[vp,cb]) (.cons (hvp _ rfl) (.cons (zjr (fun v h=>.inl ⟨rfl,h⟩) hcb.fn.1 hcb.fn.2) .nil)) 23 hb.gl
    rw[z2i]
    exact⟨this,hb,EX.refl _ _⟩
  have hnil:∀ {T:Fr} {φ:Ph} {a:Act},TR PT φ 23 T a→zaK T=[]→a.defers=[]:=fun {T φ a} h hm=>by
    have:=h.defers;rw[hm] at this;exact this
  have hop:∀ {T:Fr} {H H0:Hp} {φ:Ph} {a:Act} {w w0:World} {z:Nat→Option (List Value)},St PT w0 23 H0 (phc PT z cb) T H φ a w→φ.op=(phc PT z cb).op:=fun h=>h.ex.keep.op
  have hcbv:∀ {φ:Ph},φ.op=(phc PT z cb).op→VR φ cbA cb:=fun {φ} h=>zjr (fun v hv=>by rw[h];exact .inl ⟨rfl,hv⟩) hcb.fn.1 hcb.fn.2
  have opc:∀ z':Nat→Option (List Value),True:=fun _=>trivial
  unfold qc
  refine wpIn_seq (zdo K1_e zb4 (zcb hst (m1 op ww v nq np p (l.map tmA))) fun a1 w1 hon1=>?_)
  refine wpIn_seq (wpIn_seq (wpIn_region ?_))
  rw[sz1]
  refine zbu h1_0 g1_0 (zcX zyY zb4 zcC hon1 fun a2 w2 hon2=>?_)
  refine zbu h1_1 g1_1 (zcX zyX zb4 zcC hon2 fun a3 w3 hon3=>?_)
  refine zbu h1_2 g1_2 ?_
  obtain⟨φ3,hs3⟩:=zd3 hon3
  have e7:a3.eval (.tmp 7)=cb:=zhZ (hop hs3) (by have:=hs3.tr.val 7;rwa [m1_7] at this)
  have e1:a3.tmps.getD 1 undef=cb:=zhZ (hop hs3) (by have:=hs3.tr.val 1;rwa [m1_1] at this)
  obtain⟨φ4,hs4,hv2,_⟩:=z0P hs3 (m1_c op ww v nq np p (l.map tmA))
  have hv8:FV φ4.fz (tmV op ww v nq np p (l.map tmA)) (a3.tmps.getD 8 undef):=by
    have:=zce (t:=8) hs4 (by rw[m1_8];kernel_rfl)
    rwa [m1_8] at this
  obtain⟨hz1,hz2,hz3,hz4⟩:=zdh hs4
  have hJ4:=hcb.more i z φ4.fz w w3 hJ hz4 hz1 hz2 hz3
  have hd3:a3.defers=[]:=hnil hs3.tr (m1_m _ _ _ _ _ _ _)
  have hsz3:=hs3.tr.size
  have hA:=hcb.step i _ he0 w3 φ4.fz _ hJ4 hv8
  refine zjD (cl:={ callee:=.value (.tmp 7),args:=#[.tmp 8],argTypes:=#[26] }) (f:=.tmp 7) c12 rfl (R:=fun e W'=>(e=.returned (.bool true)∧J (i+1) φ4.fz W') ∨ (e=.returned (.bool false)∧E W')) (by rw[e7];exact hA) ?_
  have hdst:(opO (rg 1) 2).dst=some 9:=d12
  rintro e w4 (⟨rfl,hJ5⟩ | ⟨rfl,hE⟩)
  rotate_left
  ·
    refine⟨_,rfl,?_⟩
    rw[hdst]
    have hsf:St PT w4 23 (zaf PT) (phc PT (fun _=>none) cb) F2f (zaf PT) (phc PT (fun _=>none) cb) (a3.put (some 9) (.bool false)) w4:=by
      obtain⟨g1,g2⟩:=ziH (φ:=phc PT (fun _=>none) cb) (a:=a3.put (some 9) (.bool false)) [(9,bV false)] (fun x hx=>by
        simp only[List.mem_singleton] at hx
        subst hx
        refine⟨by simp,?_⟩
        rw[zda,if_pos ⟨rfl,by omega⟩]
        exact zhB false)
      exact zhv globs (fun x C h=>by cases h) (hcb.holdE _ hE) (by simpa [Act.put] using hsz3) hd3 g2 g1
    refine zbu h1_3 g1_3 (zcX z2d zb4 zcC (zcb hsf m2g) fun a5 w5 hon5=>?_)
    obtain⟨φ5,hs5⟩:=zd3 hon5
    refine wpIn_cond_true (VR.bV (by have:=hs5.tr.val 10;rwa [zzd] at this)) ?_
    refine wpIn_seq (zdo z2e zb4 (zcb hs5 m2t) fun a6 w6 hon6=>?_)
    obtain⟨φ6,hs6⟩:=zd3 hon6
    refine wpIn_ret ?_
    exact zlg hs6 (hnil hs6.tr z2l) z2k (.inr ⟨rfl,hcb.laterE _ _ hE (zdh hs6).2.2.2⟩)
  refine⟨_,rfl,?_⟩
  rw[hdst]
  obtain⟨hz5,hw5⟩:=hcb.hold _ _ _ hJ5
  have hst4:St PT w4 23 (zaf PT) (phc PT φ4.fz cb) (F2 (tmV op ww v nq np p (l.map tmA))) (zaf PT) (phc PT φ4.fz cb) (a3.put (some 9) (.bool true)) w4:=by
    obtain⟨g1,g2⟩:=ziH (φ:=phc PT φ4.fz cb) (a:=a3.put (some 9) (.bool true)) [(1,cbA),(2,⟨26,0,0,0,0,[tmV op ww v nq np p (l.map tmA)]⟩),(9,bV true)] (fun x hx=>by
      simp only[List.mem_cons,List.not_mem_nil,or_false] at hx
      rcases hx with rfl | rfl | rfl
      · refine⟨by simp,?_⟩
        rw[zda,if_neg (fun h=>by have:=h.1;simp at this),e1]
        exact zjr (fun v hv=>.inl ⟨rfl,hv⟩) hcb.fn.1 hcb.fn.2
      · refine⟨by simp,?_⟩
        rw[zda,if_neg (fun h=>by have:=h.1;simp at this)]
        exact hv2 _ rfl
      · refine⟨by simp,?_⟩
        rw[zda,if_pos ⟨rfl,by omega⟩]
        exact zhB true)
    exact zhv globs hz5 hw5 (by simpa [Act.put] using hsz3) hd3 g2 g1
  refine zbu h1_3 g1_3 (zcX K2_e zb4 zcC (zcb hst4 (m2 op ww v nq np p (l.map tmA))) fun a5 w5 hon5=>?_)
  obtain⟨φ5,hs5⟩:=zd3 hon5
  refine wpIn_cond_false (VR.bV (by have:=hs5.tr.val 10;rwa [z2j] at this)) (wpIn_skip ?_)
  refine wpIn_seq (wpIn_seq (zdo K3_e zb4 (zcb hs5 (m3 op ww v nq np p (l.map tmA))) fun a6 w6 hon6=>?_))
  obtain⟨φ6,hs6⟩:=zd3 hon6
  have hzz:=fun x C (h:z x=some C)=>hz1 x C h
  obtain⟨hy1,hy2,hy3,hy4⟩:=zdh hs6
  have hJ6:=hcb.more _ φ4.fz φ6.fz w4 w6 hJ5 hy4 hy1 hy2 hy3
  let X:=l.map tmA
  have hX:lenL X=l.length:=by rw[zaz,List.length_map]
  let Iv:Nat→Act→World→Prop:=fun j a W=>j≤l.length∧∃ z',(∀ x C,z x=some C→z' x=some C)∧J (i+1+(zb8 (l.take j)).length) z' W∧23≤a.tmps.size∧a.defers=[]∧a.tmps.getD 1 undef=cb∧FV z' (slP p 5 X) (a.tmps.getD 12 undef)∧FV z' (i64 (lenL X)) (a.tmps.getD 13 undef)∧FV z' (i64 j) (a.tmps.getD 14 undef)
  let μ:Act→World→Nat:=fun a W=>(Classical.propDecidable (∃ n,Iv (l.length - n) a W∧n≤l.length)).byCases (fun h=>Classical.choose (least h)) (fun _=>0)
  have hμ:∀ a W,(∃ n,Iv (l.length - n) a W∧n≤l.length)→(Iv (l.length - μ a W) a W∧μ a W≤l.length)∧∀ m,(Iv (l.length - m) a W∧m≤l.length)→μ a W≤m:=by
    intro a W he
    have:μ a W=Classical.choose (least he):=by
      show (Classical.propDecidable (∃ n,Iv (l.length - n) a W∧n≤l.length)).byCases _ _=_
      cases Classical.propDecidable (∃ n,Iv (l.length - n) a W∧n≤l.length) with
      | isTrue h=>rfl
      | isFalse h=>exact absurd he h
    rw[this]
    exact Classical.choose_spec (least he)
  have hinit:Iv 0 a6 w6:=by
    refine⟨Nat.zero_le _,φ6.fz,fun x C h=>hy1 x C (hzz x C h),hJ6,hs6.tr.size,hnil hs6.tr (m3_m _ _ _ _ _ _ _),zhZ (hop (z:=φ4.fz) hs6) (by have:=hs6.tr.val 1;rwa [m3_1] at this),?_,?_,?_⟩
    · have:=zce (t:=12) hs6 (by rw[zvo];kernel_rfl);rwa [zvo] at this
    · have:=zce (t:=13) hs6 (by rw[zvp];kernel_rfl);rwa [zvp] at this
    · have:=zce (t:=14) hs6 (by rw[zvq];kernel_rfl);rwa [zvq] at this
  refine wpIn_block (wpIn_loop (fun a W=>∃ n,Iv (l.length - n) a W∧n≤l.length) μ ⟨l.length,by rw[Nat.sub_self];exact hinit,Nat.le_refl _⟩ ?_)
  intro a7 w7 hI
  obtain⟨⟨hIv,hmle⟩,_⟩:=hμ a7 w7 hI
  generalize hme:μ a7 w7=m at hIv hmle
  obtain⟨j,hj⟩:∃ j,j=l.length - m:=⟨_,rfl⟩
  rw[← hj] at hIv
  obtain⟨hjl,z',q1,q2,q3,q4,q5,q6,q7,q8⟩:=hIv
  obtain⟨hz7,hw7⟩:=hcb.hold _ _ _ q2
  have hs7:St PT w7 23 (zaf PT) (phc PT z' cb) (F4 X p j) (zaf PT) (phc PT z' cb) a7 w7:=by
    obtain⟨g1,g2⟩:=ziH (φ:=phc PT z' cb) (a:=a7) [(1,cbA),(12,slP p 5 X),(13,i64 (lenL X)),(14,i64 j)] (fun x hx=>by
      simp only[List.mem_cons,List.not_mem_nil,or_false] at hx
      rcases hx with rfl | rfl | rfl | rfl
      · refine⟨by simp,?_⟩
        rw[q5]
        exact zjr (fun v hv=>.inl ⟨rfl,hv⟩) hcb.fn.1 hcb.fn.2
      · exact⟨by simp,q6 _ rfl⟩
      · exact⟨by simp,q7 _ rfl⟩
      · exact⟨by simp,q8 _ rfl⟩)
    exact zhv globs hz7 hw7 q3 q4 g2 g1
  refine wpIn_seq (zdo K4_e zb4 (zcb hs7 (m4 p j X)) fun a8 w8 hon8=>?_)
  obtain⟨φ8,hs8⟩:=zd3 hon8
  have h15:a8.eval (.tmp 15)=.bool (nb (nble (biased 3 (lenL X)) (biased 3 j))):=VR.bV (by have:=hs8.tr.val 15;rwa [z2m] at this)
  rw[hX,zbC hlenl.1 (by omega)] at h15
  refine wpIn_seq ?_
  by_cases hjlt:j<l.length
  rotate_left
  ·
    rw[show decide (l.length≤j)=true by simpa using hjlt] at h15
    refine wpIn_cond_false h15 (wpIn_exit ?_)
    have hend:(Code.seq (Code.region 9 (rg 9) false) Code.ret).wpIn (fen none) 0 PT (bodyPostM (fen none) 0 PT Tryz.f120 (zjd J E z (i+(preT (.mk op ww v nq np p l)).length))) a8 w8:=by
      refine wpIn_seq (zdo K9_e zb4 (zcb hs8 (m9 p j X)) fun a9 w9 hon9=>?_)
      obtain⟨φ9,hs9⟩:=zd3 hon9
      obtain⟨r1,r2,r3,r4⟩:=zdh hs9
      refine wpIn_ret (zlg hs9 (hnil hs9.tr (m9_m _ _ _)) (m9_4 _ _ _) (.inl ⟨rfl,φ9.fz,fun x C h=>r1 x C (q1 x C h),?_⟩))
      have:=hcb.more _ z' φ9.fz w7 w9 q2 r4 r1 r2 r3
      have hjj:j=l.length:=by omega
      rw[hjj,List.take_length] at this
      rw[preT,List.length_cons]
      rw[show i+((zb8 l).length+1)=i+1+(zb8 l).length by omega]
      exact this
    exact hend
  rw[show decide (l.length≤j)=false by simpa using hjlt] at h15
  refine wpIn_cond_true h15 (wpIn_skip ?_)
  refine wpIn_seq (wpIn_block (wpIn_seq (wpIn_region ?_)))
  rw[sz5]
  have hnth:nthL X j=tmA l[j]:=zca tmA l j hjlt
  have hm5:K5.run R0 (resT (M4 X p j)) (zaf PT)=[⟨9,0,F5 X p j (tmA l[j]),zaf PT⟩]:=by
    rw[m5,hX,zah.2 (show Nat.succ j≤l.length from hjlt),zag,hnth]
  refine zbu h5_0 g5_0 (zcX K5_e zb4 zcC (zcb hs8 hm5) fun a9 w9 hon9=>?_)
  obtain⟨φ9,hs9⟩:=zd3 hon9
  obtain⟨o',w',v',nq',np',p',l',hlj⟩:∃ o' w' v' nq' np' p' l',l[j]=Tm.mk o' w' v' nq' np' p' l':=by
    cases l[j] with | mk a b c d e f g=>exact⟨a,b,c,d,e,f,g,rfl⟩
  rw[hlj,zaP] at hs9
  have hs9':=zcb hs9 (m6 o' w' v' nq' np' p' j (l'.map tmA) X p)
  refine zbu h5_1 g5_1 (zcX K6_e zb4 zcC hs9' fun a10 w10 hon10=>?_)
  refine zbu h5_2 g5_2 (zcX zzc zb4 zcC hon10 fun a11 w11 hon11=>?_)
  refine zbu h5_3 g5_3 (zcX zzb zb4 zcC hon11 fun a12 w12 hon12=>?_)
  refine wpIn_seq (wpIn_region ?_)
  rw[sz6]
  refine zbu h6_0 g6_0 (zcX zza zb4 zcC hon12 fun a13 w13 hon13=>?_)
  refine zbu h6_1 g6_1 (zcX zyZ zb4 zcC hon13 fun a14 w14 hon14=>?_)
  refine zbu h6_2 g6_2 ?_
  obtain⟨φ14,hs14⟩:=zd3 hon14
  obtain⟨r1,r2,r3,r4⟩:=zdh hs14
  have hv18:FV φ14.fz (tmA l[j]) (a14.tmps.getD 18 undef):=by
    have:=zce (t:=18) hs14 (by rw[zvr];kernel_rfl)
    rw[zvr] at this
    rw[hlj,zaP];exact this
  have hv19:a14.tmps.getD 19 undef=cb:=zhZ (hop (z:=z') hs14) (by have:=hs14.tr.val 19;rwa [z2n] at this)
  have hv1:a14.tmps.getD 1 undef=cb:=zhZ (hop (z:=z') hs14) (by have:=hs14.tr.val 1;rwa [m6_1] at this)
  have hv12:FV φ14.fz (slP p 5 X) (a14.tmps.getD 12 undef):=by have:=zce (t:=12) hs14 (by rw[zvs];kernel_rfl);rwa [zvs] at this
  have hv13:FV φ14.fz (i64 (lenL X)) (a14.tmps.getD 13 undef):=by have:=zce (t:=13) hs14 (by rw[zvt];kernel_rfl);rwa [zvt] at this
  have hv14:FV φ14.fz (i64 j) (a14.tmps.getD 14 undef):=by have:=zce (t:=14) hs14 (by rw[zvu];kernel_rfl);rwa [zvu] at this
  have hJ14:=hcb.more _ z' φ14.fz w7 w14 q2 r4 r1 r2 r3
  have hd14:a14.defers=[]:=hnil hs14.tr (m6_m _ _ _ _ _ _ _ _ _ _)
  have hsz14:=hs14.tr.size
  have hes':es.drop (i+1+(zb8 (l.take j)).length)=(preT l[j]).map tmA++((zb8 (l.drop (j+1))).map tmA++rest):=by
    have h1:es.drop (i+1+(zb8 (l.take j)).length)=(es.drop i).drop (1+(zb8 (l.take j)).length):=by rw[List.drop_drop];exact congrArg (fun n=>es.drop n) (by omega)
    rw[h1,hes,preT,zop l j hjlt,List.map_cons,List.cons_append,Nat.add_comm 1,List.drop_succ_cons]
    simp only[List.map_append,List.append_assoc]
    rw[List.drop_left' (by rw[List.length_map])]
  have hcall:=ih l[j] (List.getElem_mem hjlt) (hlenl.2 _ (List.getElem_mem hjlt)) _ _ φ14.fz w14 _ hes' hJ14 hv18
  have hev:a14.eval (.func 120)=.func (.func 120) #[] #[]:=rfl
  have harg:([Operand.tmp 18,.tmp 19].map a14.eval)=[a14.tmps.getD 18 undef,cb]:=by
    rw[List.map_cons,List.map_cons,List.map_nil,← hv19];rfl
  have happ:zmM PT (a14.eval (.func 120)) ([Operand.tmp 18,.tmp 19].map a14.eval) w14 (zjd J E φ14.fz (i+1+(zb8 (l.take j)).length+(preT l[j]).length)):=by
    rw[hev,harg]
    exact .inl ⟨120,#[],#[],Tryz.f120,rfl,zkm,by rw[zlf];rfl,zcz _ _ zkm,by simpa using hcall⟩
  refine zjD (cl:={ callee:=.value (.func 120),args:=#[.tmp 18,.tmp 19],argTypes:=#[26,108] }) (f:=.func 120) c62 rfl happ ?_
  have hdst2:(opO (rg 6) 2).dst=some 20:=d62
  rintro e w15 (⟨rfl,z2,hz2',hJ15⟩ | ⟨rfl,hE⟩)
  rotate_left
  · refine⟨_,rfl,?_⟩
    rw[hdst2]
    have hsf:St PT w15 23 (zaf PT) (phc PT (fun _=>none) cb) F7f (zaf PT) (phc PT (fun _=>none) cb) (a14.put (some 20) (.bool false)) w15:=by
      obtain⟨g1,g2⟩:=ziH (φ:=phc PT (fun _=>none) cb) (a:=a14.put (some 20) (.bool false)) [(20,bV false)] (fun x hx=>by
        simp only[List.mem_singleton] at hx
        subst hx
        refine⟨by simp,?_⟩
        rw[zda,if_pos ⟨rfl,by omega⟩]
        exact zhB false)
      exact zhv globs (fun x C h=>by cases h) (hcb.holdE _ hE) (by simpa [Act.put] using hsz14) hd14 g2 g1
    refine zbu h6_3 g6_3 (zcX z2f zb4 zcC (zcb hsf m7g) fun a16 w16 hon16=>?_)
    obtain⟨φ16,hs16⟩:=zd3 hon16
    refine wpIn_cond_true (VR.bV (by have:=hs16.tr.val 21;rwa [zze] at this)) ?_
    refine wpIn_seq (zdo z2g zb4 (zcb hs16 m7t) fun a17 w17 hon17=>?_)
    obtain⟨φ17,hs17⟩:=zd3 hon17
    refine wpIn_ret ?_
    exact zlg hs17 (hnil hs17.tr z2q) z2p (.inr ⟨rfl,hcb.laterE _ _ hE (zdh hs17).2.2.2⟩)
  refine⟨_,rfl,?_⟩
  rw[hdst2]
  obtain⟨hz15,hw15⟩:=hcb.hold _ _ _ hJ15
  have hs15:St PT w15 23 (zaf PT) (phc PT z2 cb) (F7 X p j) (zaf PT) (phc PT z2 cb) (a14.put (some 20) (.bool true)) w15:=by
    obtain⟨g1,g2⟩:=ziH (φ:=phc PT z2 cb) (a:=a14.put (some 20) (.bool true)) [(1,cbA),(12,slP p 5 X),(13,i64 (lenL X)),(14,i64 j),(20,bV true)] (fun x hx=>by
      simp only[List.mem_cons,List.not_mem_nil,or_false] at hx
      rcases hx with rfl | rfl | rfl | rfl | rfl
      · refine⟨by simp,?_⟩
        rw[zda,if_neg (fun h=>by have:=h.1;simp at this),hv1]
        exact zjr (fun v hv=>.inl ⟨rfl,hv⟩) hcb.fn.1 hcb.fn.2
      · refine⟨by simp,?_⟩
        rw[zda,if_neg (fun h=>by have:=h.1;simp at this)]
        exact (hv12.mono hz2') _ rfl
      · refine⟨by simp,?_⟩
        rw[zda,if_neg (fun h=>by have:=h.1;simp at this)]
        exact (hv13.mono hz2') _ rfl
      · refine⟨by simp,?_⟩
        rw[zda,if_neg (fun h=>by have:=h.1;simp at this)]
        exact (hv14.mono hz2') _ rfl
      · refine⟨by simp,?_⟩
        rw[zda,if_pos ⟨rfl,by omega⟩]
        exact zhB true)
    exact zhv globs hz15 hw15 (by simpa [Act.put] using hsz14) hd14 g2 g1
  refine zbu h6_3 g6_3 (zcX K7_e zb4 zcC (zcb hs15 (m7 p j X)) fun a16 w16 hon16=>?_)
  obtain⟨φ16,hs16⟩:=zd3 hon16
  refine wpIn_cond_false (VR.bV (by have:=hs16.tr.val 21;rwa [z2o] at this)) (wpIn_skip ?_)
  refine zdo K8_e zb4 (zcb hs16 (m8 p j X)) fun a17 w17 hon17=>?_
  obtain⟨φ17,hs17⟩:=zd3 hon17
  obtain⟨s1,s2,s3,s4⟩:=zdh hs17
  have hJ17:=hcb.more _ z2 φ17.fz w15 w17 hJ15 s4 s1 s2 s3
  have hIv':Iv (j+1) a17 w17:=by
    refine⟨hjlt,φ17.fz,fun x C h=>s1 x C (hz2' x C (r1 x C (q1 x C h))),?_,hs17.tr.size,hnil hs17.tr (m8_m _ _ _),zhZ (hop (z:=z2) hs17) (by have:=hs17.tr.val 1;rwa [m8_1] at this),?_,?_,?_⟩
    · rw[zpS l j hjlt,← Nat.add_assoc];exact hJ17
    · have:=zce (t:=12) hs17 (by rw[zvv];kernel_rfl);rwa [zvv] at this
    · have:=zce (t:=13) hs17 (by rw[zvw];kernel_rfl);rwa [zvw] at this
    · have:=zce (t:=14) hs17 (by rw[zvx];kernel_rfl)
      rw[zvx] at this
      have e:gt2 (fun a b=>Nat.mod (Nat.add a b) (kMod 3)) j 1=j+1:=zeO (by omega)
      rwa [e] at this
  have hn1:l.length - (m - 1)=j+1:=by omega
  have hex:Iv (l.length - (m - 1)) a17 w17∧m - 1≤l.length:=⟨by rw[hn1];exact hIv',by omega⟩
  exact⟨⟨m - 1,hex⟩,Nat.lt_of_le_of_lt ((hμ a17 w17 ⟨m - 1,hex⟩).2 (m - 1) hex) (by omega)⟩
end visit
end Go.Eng
namespace Go.Eng
open Go.RowKit Go.Proofs
noncomputable section
def rg9:Array Oper:=(regO 0 (zad Tryz.f119)).getD #[]
def K19:BR:=opK PT 6 (opO rg9 0) (opK PT 6 (opO rg9 1) mkK)
def zvy:BR:=opK PT 6 (opO rg9 1) mkK
def M19(A:AV):RL:=K19.run R0 (zar 0 [cbA,⟨26,0,0,0,0,[A]⟩] noFr) (zaf PT)
end
theorem z2r:K19=opK PT 6 (opO rg9 0) zvy:=rfl
theorem zws:zvy=opK PT 6 (opO rg9 1) mkK:=rfl
theorem z2s:Tryz.prog.funcs[119]?=some Tryz.f119:=by kernel_rfl
theorem zwt:Tryz.f119.body=some (.region 0 rg9 false):=by kernel_rfl
theorem z2t:Tryz.f119.results.toList=[]:=by kernel_rfl
theorem z2u:Tryz.f119.ntmps=6:=by kernel_rfl
theorem sz9:List.range rg9.size=[0,1,2]:=by kernel_rfl
theorem h9_0:rg9[0]?=some (opO rg9 0):=by kernel_rfl
theorem h9_1:rg9[1]?=some (opO rg9 1):=by kernel_rfl
theorem h9_2:rg9[2]?=some (opO rg9 2):=by kernel_rfl
theorem g9_0:(opO rg9 0).guard=none:=by kernel_rfl
theorem g9_1:(opO rg9 1).guard=none:=by kernel_rfl
theorem g9_2:(opO rg9 2).guard=none:=by kernel_rfl
theorem c92:(opO rg9 2).op=.call { callee:=.value (.func 120),args:=#[.tmp 3,.tmp 4],argTypes:=#[26,108] }:=by kernel_rfl
section eqs
variable (op w v nq np p j:Nat) (X:List AV)
theorem m19:K19.run R0 (zar 0 [cbA,⟨26,0,0,0,0,[tmV op w v nq np p X]⟩] noFr) (zaf PT)=[⟨9,0,resT (M19 (tmV op w v nq np p X)),zaf PT⟩]:=by kernel_rfl
theorem zvz:(getB 3).run (resT (M19 (tmV op w v nq np p X)))=tmV op w v nq np p X:=by kernel_rfl
theorem z2v:(getB 4).run (resT (M19 (tmV op w v nq np p X)))=cbA:=by kernel_rfl
theorem z2w:zaK (resT (M19 (tmV op w v nq np p X)))=[]:=by kernel_rfl
end eqs
theorem zrG(t:Tm)(hlen:zch t):zhT PT 119 [⟨26,0,0,0,0,[tmA t]⟩] ((preT t).map tmA):=by
  intro z w cvals cb J E hcb hcv hJ
  obtain⟨hz0,hw0⟩:=hcb.hold _ _ _ hJ
  obtain⟨cv,rfl⟩:∃ cv,cvals=[cv]:=by
    have:=(hcv (phz PT z) rfl).length
    match cvals,this with
    | [c],_=>exact⟨c,rfl⟩
  obtain⟨op,ww,v,nq,np,p,l,rfl⟩:∃ o' w' v' nq' np' p' l',t=Tm.mk o' w' v' nq' np' p' l':=by
    cases t with | mk a b c d e f g=>exact⟨a,b,c,d,e,f,g,rfl⟩
  rw[zaP] at hcv
  refine zeq (ro:=none) (n:=0) (callsIn_of_wp_marks z2s zwt trivial ?_)
  have hst:St PT w 6 (zaf PT) (phc PT z cb) (zar 0 [cbA,⟨26,0,0,0,0,[tmV op ww v nq np p (l.map tmA)]⟩] noFr) (zaf PT) (phc PT z cb) { tmps:=(cb::[cv]).toArray++Array.replicate (Tryz.f119.ntmps - (cb::[cv]).toArray.size) undef,defers:=[] } w:=by
    have hb:=zhu (P:=PT) (cb:=cb) globs hz0 hw0
    have:=zfC (P:=PT) (φ:=phc PT z cb) (args:=[cbA,⟨26,0,0,0,0,[tmV op ww v nq np p (l.map tmA)]⟩]) (vals:=[cb,cv]) (.cons (zjr (fun v h=>.inl ⟨rfl,h⟩) hcb.fn.1 hcb.fn.2) (hcv _ rfl)) 6 hb.gl
    rw[z2u]
    exact⟨this,hb,EX.refl _ _⟩
  refine wpIn_region ?_
  rw[sz9]
  refine zbu h9_0 g9_0 (zcX z2r zb4 zcC (zcb hst (m19 op ww v nq np p (l.map tmA))) fun a1 w1 hon1=>?_)
  refine zbu h9_1 g9_1 (zcX zws zb4 zcC hon1 fun a2 w2 hon2=>?_)
  refine zbu h9_2 g9_2 ?_
  obtain⟨φ2,hs2⟩:=zd3 hon2
  obtain⟨r1,r2,r3,r4⟩:=zdh hs2
  have hJ2:=hcb.more _ z φ2.fz w w2 hJ r4 r1 r2 r3
  have hv3:FV φ2.fz (tmA (.mk op ww v nq np p l)) (a2.tmps.getD 3 undef):=by
    have:=zce (t:=3) hs2 (by rw[zvz];kernel_rfl)
    rw[zvz] at this
    rw[zaP];exact this
  have hv4:a2.tmps.getD 4 undef=cb:=zhZ (z:=z) hs2.ex.keep.op (by have:=hs2.tr.val 4;rwa [z2v] at this)
  have hnil:∀ {T:Fr} {φ:Ph} {a:Act},TR PT φ 6 T a→zaK T=[]→a.defers=[]:=fun {T φ a} h hm=>by
    have:=h.defers;rw[hm] at this;exact this
  have hd2:a2.defers=[]:=hnil hs2.tr (z2w _ _ _ _ _ _ _)
  have hes0:((preT (.mk op ww v nq np p l)).map tmA).drop 0=(preT (.mk op ww v nq np p l)).map tmA++[]:=(List.append_nil _).symm
  have hcall:=ztR hcb (.mk op ww v nq np p l) hlen 0 [] φ2.fz w2 _ hes0 hJ2 hv3
  have harg:([Operand.tmp 3,.tmp 4].map a2.eval)=[a2.tmps.getD 3 undef,cb]:=by
    rw[List.map_cons,List.map_cons,List.map_nil,← hv4];rfl
  have happ:zmM PT (a2.eval (.func 120)) ([Operand.tmp 3,.tmp 4].map a2.eval) w2 (zjd J E φ2.fz (0+(preT (.mk op ww v nq np p l)).length)):=by
    rw[show a2.eval (.func 120)=.func (.func 120) #[] #[] from rfl,harg]
    exact .inl ⟨120,#[],#[],Tryz.f120,rfl,zkm,by rw[zlf];rfl,zcz _ _ zkm,by simpa using hcall⟩
  refine zjD (cl:={ callee:=.value (.func 120),args:=#[.tmp 3,.tmp 4],argTypes:=#[26,108] }) (f:=.func 120) c92 rfl happ ?_
  have hend:∀ (a':Act) (w':World),a'.defers=[]→((∃ z',J ((preT (.mk op ww v nq np p l)).map tmA).length z' w') ∨ E w')→LeavesInM (fen none) 0 PT Tryz.f119 a'.tmps (fun e W'=>(∃ v,e=.returned v)∧((∃ z',J ((preT (.mk op ww v nq np p l)).map tmA).length z' W') ∨ E W')) a'.defers .returning w':=by
    intro a' w' hd h
    rw[hd]
    have hb:=zhu (P:=PT) (cb:=cb) (z:=fun _=>none) (w:=w') globs (fun x C h=>by cases h) (by
      rcases h with⟨z',h⟩ | h
      · exact (hcb.hold _ _ _ h).2
      · exact hcb.holdE _ h)
    have htr:TR PT (phc PT (fun _=>none) cb) 0 zdU { tmps:=a'.tmps,defers:=[] }:=⟨Nat.zero_le _,fun t=>by rw[zf5];exact zty,rfl,hb.gl⟩
    obtain⟨val,h3,_⟩:=zdN (fn:=Tryz.f119) (v:=tupV []) htr hb (by rw[z2t];rfl)
    exact⟨val,h3,⟨_,rfl⟩,h⟩
  rintro e w3 (⟨rfl,z2,_,hJ3⟩ | ⟨rfl,hE⟩)
  · refine⟨_,rfl,?_⟩
    refine hend _ _ hd2 (.inl ⟨z2,?_⟩)
    rw[List.length_map,← Nat.zero_add (preT _).length];exact hJ3
  · refine⟨_,rfl,?_⟩
    exact hend _ _ hd2 (.inr hE)
end Go.Eng
namespace Go.Eng
open Go.RowKit Go.Proofs
noncomputable section
def labW(l:List (List Nat × LW)):LabW:=fun q=>List.rec (motive:=fun _=>Option LW) none (fun x _ ih=>bi (ztf x.1 q) (some x.2) ih) l
end
end Go.Eng
