/- A part of the proof that the evaluator in GnC, and the driver in GnZ, answer as the model does; no conditions. -/
import Derived.Test.YtfmoohdaimlggaaGreatDoorGnJa
import Derived.Test.YtfmoohdaimlggaaGreatDoorGnKa
import Derived.Test.YtfmoohdaimlggaaGreatDoorGnHg
namespace Go.Eng
open Go.RowKit Go.Proofs
noncomputable section
mutual
def szT:Tm→Nat
  | .mk _ _ _ _ _ _ l=>1+szTs l
def szTs:List Tm→Nat
  | []=>0
  | a::l=>szT a+szTs l
end
mutual
def dpT:Tm→Nat
  | .mk _ _ _ _ _ _ l=>dpTs l+1
def dpTs:List Tm→Nat
  | []=>0
  | a::l=>max (dpT a) (dpTs l)
end
mutual
def poT:Tm→List Tm
  | .mk op w v nq np p l=>poTs l++[.mk op w v nq np p l]
def poTs:List Tm→List Tm
  | []=>[]
  | a::l=>poT a++poTs l
end
def zez(a:AV):Nat:=szT (unTm a)
def zed(a:AV):Nat:=dpT (unTm a)
def zdr(a:AV):List AV:=(poT (unTm a)).map tmA
def zbK(a:AV):List AV:=(preT (unTm a)).map tmA
def varB(x:Nat):Bool:=bi (nbeq x 24) true (nbeq x 25)
def chOk(q n i:Nat):Bool:=decide ((97≤zbf (stA q n) i∧zbf (stA q n) i≤122) ∨ (48≤zbf (stA q n) i∧zbf (stA q n) i≤57) ∨ zbf (stA q n) i=95)
def zcc(q n:Nat):Bool:=decide (1≤q∧q≤16∧97≤zbf (stA q n) 0∧zbf (stA q n) 0≤122∧∀ i,i<q→chOk q n i=true)
def zdk:Tm→Nat
  | .mk op w v nq np _ l =>
    if arT op=18446744073709551615 ∨ op=1 ∨ op=26 ∨ l.length ≠ arT op then 4
    else if ((nq ≠ 0 ∨ np ≠ 0)∧varB op=false) ∨ (v ≠ 0∧op ≠ 2∧op ≠ 21) then 4
    else if varB op=true∧zcc nq np=false then 5
    else if (wdP op w v (l.map Tm.w)).2 ≠ 0 ∨ (wdP op w v (l.map Tm.w)).1 ≠ w then 3 else 0
def zbz:List Tm→Nat
  | []=>0
  | t::l=>if zdk t=0 then zbz l else zdk t
def nmS:List Tm→List Tm→Option (List Tm)
  | acc,[]=>some acc
  | acc,u::l=>if varB u.op=true then
      (match acc.find? (fun o=>decide (o.nq=u.nq∧o.np=u.np)) with
      | some o=>if o.op=u.op∧o.w=u.w then nmS acc l else none
      | none=>nmS (acc++[u]) l) else nmS acc l
def chkT(t:Tm):Nat :=
  if 4096<szT t ∨ 64<dpT t then 7 else if zbz (poT t) ≠ 0 then zbz (poT t) else
  match nmS [] (preT t) with
  | none=>12
  | some l=>if 16<l.length then 7 else 0
def vbA(x:Nat × Nat × Nat):AV:=aggV [stA x.1 x.2.1,i64 x.2.2]
def unVb(a:AV):Nat × Nat × Nat:=((nthL a.cs 0).q,(nthL a.cs 0).p,(nthL a.cs 1).p)
def zc6(a:AV):Nat:=zdk (unTm a)
def zbA(a:AV):Nat:=zbz (poT (unTm a))
def zcj(a:AV):Nat:=chkT (unTm a)
def zel(a:AV)(n:Nat):Nat:=n - szT (unTm a)
def zdu(a:AV)(n:Nat):Bool:=decide (n<dpT (unTm a))
def zd8(a:AV)(n:Nat):Bool:=decide (szT (unTm a)≤n)
def ze0(a:AV):List AV:=match nmS [] (preT (unTm a)) with | none=>[] | some l=>l.map fun u=>stA u.nq u.np
def zc7(a:AV):Bool:=(nmS [] (preT (unTm a))).isSome
def hasV(l:List (Nat × Nat × Nat))(t:Tm):Bool:=l.any fun x=>decide (x.1=t.nq∧x.2.1=t.np∧x.2.2=t.w)
def zdK(l:List AV)(t:AV):Bool:=hasV (l.map unVb) (unTm t)
def ixW:List (Nat × Nat × Nat)→Nat × Nat × Nat→Option Nat
  | [],_=>none
  | x::l,v=>if x=v then some 0 else (ixW l v).map (·+1)
def zem(l:List AV)(t:AV):Bool:=(ixW (l.map unVb) (unVb t)).isSome
def zgW(l:List AV)(t:AV):Nat:=match ixW (l.map unVb) (unVb t) with | none=>18446744073709551615 | some i=>i
def zbH(t:Tm)(l m:List (Nat × Nat × Nat)):Bool:=(preT t).all fun u=>(if u.op=24 then hasV l u else true) && (if u.op=25 then hasV m u else true)
def zaQ(t:AV)(l m:List AV):Bool:=zbH (unTm t) (l.map unVb) (m.map unVb)
def zeV(t:Tm):Bool:=eqT t (.mk 0 0 0 0 0 0 [])
def zdd(k ao:Nat)(b:Tm):Bool:=if k=1 then zeV b else if k=2 then true else if k=3 ∨ k=4 then decide (ao=24) else false
def gdK(g:AV):Nat:=(nthL g.cs 0).p
def gdL(g:AV):Tm:=unTm (aggV [nthL g.cs 1,nthL g.cs 2,nthL g.cs 3,nthL g.cs 4,nthL g.cs 5])
def gdR(g:AV):Tm:=unTm (aggV [nthL g.cs 6,nthL g.cs 7,nthL g.cs 8,nthL g.cs 9,nthL g.cs 10])
def zdv(g:AV):Bool:=zdd (gdK g) (gdL g).op (gdR g)
def zen(t:AV):Bool:=zeV (unTm t)
def zrH(t:AV)(l m:List AV):Bool:=true
def zlh(o:Nat)(t:List AV):Nat:=0
def zcw(l:List AV):List AV:=l.map fun a=>nthL a.cs 1
def zgu(op w v:Nat)(ws:List AV):Nat:=(wdP op w v (ws.map AV.p)).1
def zee(op w v:Nat)(ws:List AV):Nat:=(wdP op w v (ws.map AV.p)).2
def zli(o:Nat)(t:List AV):List AV:=[]
def zwu(g:AV)(l m:List AV):Nat:=0
def zwv(g:AV)(l m:List AV):Nat:=0
def zgv:Lab:=labT [([0,0,1,0,1,1],[(3,0),(7,0),(8,0),(9,0)])]
def zmC:Lab:=labT [([0,0,1,0,1],[(1,0),(2,100),(9,0),(10,0),(11,0)])]
def zdf:Lab:=labT [([1,0,0,1,1],[(1,0),(2,100),(5,0),(11,0)]),([1,1,1,0,0,1,1],[(1,0),(2,100),(35,0)]),([1,1,1,1,1,0,0,1,1],[(1,0),(2,100),(60,0)]),([1,1,1],[(1,0),(2,100)]),([1,1,1,1,1],[(2,100)])]
def zdL:Lab:=labT [([1,0,1],[(1,0),(2,100),(35,0)]),([1,0,1,1],[(1,0),(2,100),(58,0)]),([1,0,1,1,1],[(1,0),(2,100),(66,0)]),([1,1,1,1],[(1,0),(2,100)]),([1,1,1,1,1,1],[(2,100)])]
def zit:Lab:=labT [([0,0,1,0,1,1],[(0,0),(24,0),(25,0)])]
def ziu:Lab:=labT [([0,0,1,0,1,1],[(0,0),(3,0)])]
def zje:Lab:=labT [([0,0,1,0,1,1,1],[(4,0),(5,2),(6,0)]),([0,0,1,0,1,1,0,0,1,0,0,1,0,1,1,1],[(4,0),(5,2),(6,0),(7,0),(8,0)])]
def zkn:Lab:=labT [([0,0,1,0,1,1,1],[(1,0),(2,100),(5,0),(6,0)])]
def zko:Lab:=labT [([0,0,1,0,1,1],[(1,0),(2,0),(7,0),(8,0)])]
def zmD:Lab:=labT [([0,0,1,0,1],[(0,0),(3,100),(5,0)])]
def zmE:Lab:=labT [([0,0,1,0,1,1],[(1,0),(2,100),(5,0)])]
def zkp:Lab:=labT [([0,0,1,0,1,1],[(1,0),(2,100),(10,0),(11,0)])]
def zkq:Lab:=labT [([0,0,1,0,1],[(0,0),(3,100),(7,0),(8,0)])]
def zeW:Lab:=labT [([0,0,1,0,1,1],[(2,0),(26,0),(27,0),(28,0)]),([0,0,1,0,1],[(1,0),(2,0),(3,100),(13,0),(14,0),(15,0)])]
def zkr:Lab:=labT [([0,0,1,0,1,1],[(1,0),(2,0),(15,0),(16,0),(17,0)])]
def NtJ:Nat→Option Native:=ntL [(52,natP PT 52 [26] fun l=>i64 (zez (nthL l 0))),(53,natP PT 53 [26] fun l=>i64 (zed (nthL l 0))),(54,natP PT 54 [26,4] fun l=>i64 (zbA (nthL l 0))),
  (118,natP PT 118 [26,4] fun l=>i64 (zc6 (nthL l 0))),(56,natP PT 56 [22] fun l=>bV (varB (nthL l 0).p)),(162,natP PT 162 [9] fun l=>bV (zcc (nthL l 0).q (nthL l 0).p)),(132,natP PT 132 [22] fun l=>i64 (arN (nthL l 0).p)),
  (181,natP PT 181 [24] fun l=>slP (bi (nbeq (lenL (nthL l 0).cs) 0) 0 1) 1 (zcw (nthL l 0).cs)),
  (69,natP PT 69 [22,3,23,43] fun l=>tupV [i64 (zgu (nthL l 0).p (nthL l 1).p (nthL l 2).p (nthL l 3).cs),i64 (zee (nthL l 0).p (nthL l 1).p (nthL l 2).p (nthL l 3).cs)]),
  (182,natP PT 182 [26,32] fun l=>bV true),
  (23,natP PT 23 [26,4] fun l=>i64 (zcj (nthL l 0))),(22,natP PT 22 [28] fun l=>bV (zdv (nthL l 0))),(24,natP PT 24 [26,29,29] fun l=>bV (zrH (nthL l 0) (nthL l 1).cs (nthL l 2).cs)),
  (51,natP PT 51 [26] fun l=>bV (zen (nthL l 0))),(117,natP PT 117 [26,26] fun l=>bV (eqT (unTm (nthL l 0)) (unTm (nthL l 1)))),(180,natP PT 180 [24,24,178] fun l=>bV (eqTs (zcE (nthL l 0).cs) (zcE (nthL l 1).cs))),
  (57,natP PT 57 [24] fun l=>slP (zlh 24 (nthL l 0).cs) 2 (zli 24 (nthL l 0).cs)),(59,natP PT 59 [24] fun l=>slP (zlh 25 (nthL l 0).cs) 2 (zli 25 (nthL l 0).cs)),
  (121,natP PT 121 [22,24] fun l=>slP (zlh (nthL l 0).p (nthL l 1).cs) 2 (zli (nthL l 0).p (nthL l 1).cs)),
  (58,natP PT 58 [29,74] fun l=>bV (zem (nthL l 0).cs (nthL l 1))),(122,natP PT 122 [29,74] fun l=>i64 (zgW (nthL l 0).cs (nthL l 1))),
  (123,natP PT 123 [26,26] fun l=>bV (eqT (unTm (nthL l 0)) (unTm (nthL l 1)))),(25,natP PT 25 [28] fun l=>bV (zdv (nthL l 0))),(60,natP PT 60 [26] fun l=>bV (zen (nthL l 0))),
  (26,natP PT 26 [26,4] fun l=>i64 (zcj (nthL l 0))),(27,natP PT 27 [26,29,29] fun l=>bV (zaQ (nthL l 0) (nthL l 1).cs (nthL l 2).cs)),(67,natP PT 67 [29,26] fun l=>bV (zdK (nthL l 0).cs (nthL l 1))),
  (61,natP PT 61 [26,3] fun l=>bV (zd8 (nthL l 0) (nthL l 1).p)),(124,natP PT 124 [26,3] fun l=>i64 (zel (nthL l 0) (nthL l 1).p)),(62,natP PT 62 [26,3] fun l=>bV (zdu (nthL l 0) (nthL l 1).p)),
  (63,natP PT 63 [26] fun l=>slP 1 5 (zdr (nthL l 0))),(129,natP PT 129 [26] fun l=>slP 1 5 (zbK (nthL l 0))),(66,natP PT 66 [26] fun l=>slP 1 5 (zbK (nthL l 0))),
  (64,natP PT 64 [26,4] fun l=>i64 (zc6 (nthL l 0))),(65,natP PT 65 [26] fun l=>tupV [slP (bi (zc7 (nthL l 0)) 1 0) 1 (ze0 (nthL l 0)),bV (zc7 (nthL l 0))]),
  (126,natP PT 126 [26] fun l=>bV (varB (nthL (nthL l 0).cs 0).p)),(127,natP PT 127 [9] fun l=>bV (zcc (nthL l 0).q (nthL l 0).p)),(125,natP PT 125 [22] fun l=>i64 (arR (nthL l 0).p)),
  (128,natP PT 128 [26] fun l=>slP 1 1 (zcw (nthL (nthL l 0).cs 4).cs)),(76,natP PT 76 [22,3,23,43] fun l=>tupV [i64 (zgu (nthL l 0).p (nthL l 1).p (nthL l 2).p (nthL l 3).cs),i64 (zee (nthL l 0).p (nthL l 1).p (nthL l 2).p (nthL l 3).cs)]),
  (7,natP PT 7 [28,29,29] fun l=>i64 (zwu (nthL l 0) (nthL l 1).cs (nthL l 2).cs)),(8,natP PT 8 [28,29,29] fun l=>i64 (zwv (nthL l 0) (nthL l 1).cs (nthL l 2).cs))]
def RJ:Rec:=evN PT NtJ (fun _=>false) 2
end
end Go.Eng
namespace Go.Eng
open Go.RowKit Go.Proofs
set_option maxRecDepth 4000
theorem zbQ:zaU PT RJ:=zdt mixed (zat (zat (zat (zat (zat (zat (zat (zat (zat (zat (zat (zat (zat (zat (zat (zat (zat (zat (zat (zat (zat (zat (zat (zat (zat (zat (zat (zat (zat (zat (zat (zat (zat (zat (zat (zat (zat (zat (zat (zat (zat (zat (zcK))))))))))))))))))))))))))))))))))))))))))) zcz 2
theorem s52(J:Jmp)(to tw tv tq tn tp:Nat)(tl:List AV):(zaB Tryz.prog 19 zgv (finY Tryz.prog [.tmp 2] [3]) J [] (zad Tryz.f52) (finY Tryz.prog [.tmp 2] [3]) []).run RJ (zar 0 [tmV to tw tv tq tn tp tl] noFr) (zaf Tryz.prog) =
  (J [0,0,1,0,1,1] [(i64 1),⟨24,tp,0,5,0,tl⟩,(i64 (lenL tl)),(i64 0)]):=by kernel_rfl
theorem l52(J:Jmp)(m lp n i:Nat)(ll:List AV):lblY Tryz.prog 19 zgv (zaf Tryz.prog) RJ (finY Tryz.prog [.tmp 2] [3]) (zad Tryz.f52) J [0,0,1,0,1,1] [i64 m,slP lp 5 ll,i64 n,i64 i] =
  (bi (nbeq (bi (nb (nble (biased 3 n) (biased 3 i))) 1 0) 1)
 (bi (nble i.succ (lenL ll))
 (bi (bi (zax 3 (nthL (bi (nbeq (nthL [nthL ll i] 0).1 15) (nthL [nthL ll i] 0).6 [nthL [nthL ll i] 0]) 0)) (bi (zax 3 (nthL (bi (nbeq (nthL [nthL ll i] 0).1 15) (nthL [nthL ll i] 0).6 [nthL [nthL ll i] 0]) (Nat.succ 0))) (bi (zax 7 (nthL (bi (nbeq (nthL [nthL ll i] 0).1 15) (nthL [nthL ll i] 0).6 [nthL [nthL ll i] 0]) (Nat.succ 0).succ)) (bi (zax 9 (nthL (bi (nbeq (nthL [nthL ll i] 0).1 15) (nthL [nthL ll i] 0).6 [nthL [nthL ll i] 0]) (Nat.succ 0).succ.succ)) (bi (zax 37 (nthL (bi (nbeq (nthL [nthL ll i] 0).1 15) (nthL [nthL ll i] 0).6 [nthL [nthL ll i] 0]) (Nat.succ 0).succ.succ.succ)) true false) false) false) false) false)
 (bi (nbeq (okN (zac PT 52 [⟨15,0,0,0,0,[(i64 ((nthL (bi (nbeq (nthL [nthL ll i] 0).1 15) (nthL [nthL ll i] 0).6 [nthL [nthL ll i] 0]) 0).2)),(i64 ((nthL (bi (nbeq (nthL [nthL ll i] 0).1 15) (nthL [nthL ll i] 0).6 [nthL [nthL ll i] 0]) (Nat.succ 0)).2)),(u64 ((nthL (bi (nbeq (nthL [nthL ll i] 0).1 15) (nthL [nthL ll i] 0).6 [nthL [nthL ll i] 0]) (Nat.succ 0).succ).2)),(stA ((nthL (bi (nbeq (nthL [nthL ll i] 0).1 15) (nthL [nthL ll i] 0).6 [nthL [nthL ll i] 0]) (Nat.succ 0).succ.succ).3) ((nthL (bi (nbeq (nthL [nthL ll i] 0).1 15) (nthL [nthL ll i] 0).6 [nthL [nthL ll i] 0]) (Nat.succ 0).succ.succ).2)),⟨24,(nthL (bi (nbeq (nthL [nthL ll i] 0).1 15) (nthL [nthL ll i] 0).6 [nthL [nthL ll i] 0]) (Nat.succ 0).succ.succ.succ).2,0,5,0,(nthL (bi (nbeq (nthL [nthL ll i] 0).1 15) (nthL [nthL ll i] 0).6 [nthL [nthL ll i] 0]) (Nat.succ 0).succ.succ.succ).6⟩]⟩] ⟨3,zez ⟨15,0,0,0,0,[(i64 ((nthL (bi (nbeq (nthL [nthL ll i] 0).1 15) (nthL [nthL ll i] 0).6 [nthL [nthL ll i] 0]) 0).2)),(i64 ((nthL (bi (nbeq (nthL [nthL ll i] 0).1 15) (nthL [nthL ll i] 0).6 [nthL [nthL ll i] 0]) (Nat.succ 0)).2)),(u64 ((nthL (bi (nbeq (nthL [nthL ll i] 0).1 15) (nthL [nthL ll i] 0).6 [nthL [nthL ll i] 0]) (Nat.succ 0).succ).2)),(stA ((nthL (bi (nbeq (nthL [nthL ll i] 0).1 15) (nthL [nthL ll i] 0).6 [nthL [nthL ll i] 0]) (Nat.succ 0).succ.succ).3) ((nthL (bi (nbeq (nthL [nthL ll i] 0).1 15) (nthL [nthL ll i] 0).6 [nthL [nthL ll i] 0]) (Nat.succ 0).succ.succ).2)),⟨24,(nthL (bi (nbeq (nthL [nthL ll i] 0).1 15) (nthL [nthL ll i] 0).6 [nthL [nthL ll i] 0]) (Nat.succ 0).succ.succ.succ).2,0,5,0,(nthL (bi (nbeq (nthL [nthL ll i] 0).1 15) (nthL [nthL ll i] 0).6 [nthL [nthL ll i] 0]) (Nat.succ 0).succ.succ.succ).6⟩]⟩,0,0,0,[]⟩)) 1)
 (J [0,0,1,0,1,1] [⟨3,zaR m (zez ⟨15,0,0,0,0,[(i64 ((nthL (bi (nbeq (nthL [nthL ll i] 0).1 15) (nthL [nthL ll i] 0).6 [nthL [nthL ll i] 0]) 0).2)),(i64 ((nthL (bi (nbeq (nthL [nthL ll i] 0).1 15) (nthL [nthL ll i] 0).6 [nthL [nthL ll i] 0]) (Nat.succ 0)).2)),(u64 ((nthL (bi (nbeq (nthL [nthL ll i] 0).1 15) (nthL [nthL ll i] 0).6 [nthL [nthL ll i] 0]) (Nat.succ 0).succ).2)),(stA ((nthL (bi (nbeq (nthL [nthL ll i] 0).1 15) (nthL [nthL ll i] 0).6 [nthL [nthL ll i] 0]) (Nat.succ 0).succ.succ).3) ((nthL (bi (nbeq (nthL [nthL ll i] 0).1 15) (nthL [nthL ll i] 0).6 [nthL [nthL ll i] 0]) (Nat.succ 0).succ.succ).2)),⟨24,(nthL (bi (nbeq (nthL [nthL ll i] 0).1 15) (nthL [nthL ll i] 0).6 [nthL [nthL ll i] 0]) (Nat.succ 0).succ.succ.succ).2,0,5,0,(nthL (bi (nbeq (nthL [nthL ll i] 0).1 15) (nthL [nthL ll i] 0).6 [nthL [nthL ll i] 0]) (Nat.succ 0).succ.succ.succ).6⟩]⟩),0,0,0,[]⟩,⟨24,lp,0,5,0,ll⟩,(i64 n),(i64 (zaR i 1))])
 (zab 301))
 (zab 201))
 (zab 205))
 (ansY (i64 m))):=by kernel_rfl
theorem s53(J:Jmp)(to tw tv tq tn tp:Nat)(tl:List AV):(zaB Tryz.prog 20 zgv (finY Tryz.prog [.tmp 2] [3]) J [] (zad Tryz.f53) (finY Tryz.prog [.tmp 2] [3]) []).run RJ (zar 0 [tmV to tw tv tq tn tp tl] noFr) (zaf Tryz.prog) =
  (J [0,0,1,0,1,1] [(i64 0),⟨24,tp,0,5,0,tl⟩,(i64 (lenL tl)),(i64 0)]):=by kernel_rfl
theorem l53(J:Jmp)(m lp n i:Nat)(ll:List AV):lblY Tryz.prog 20 zgv (zaf Tryz.prog) RJ (finY Tryz.prog [.tmp 2] [3]) (zad Tryz.f53) J [0,0,1,0,1,1] [i64 m,slP lp 5 ll,i64 n,i64 i] =
  (bi (nbeq (bi (nb (nble (biased 3 n) (biased 3 i))) 1 0) 1)
 (bi (nble i.succ (lenL ll))
 (bi (bi (zax 3 (nthL (bi (nbeq (nthL [nthL ll i] 0).1 15) (nthL [nthL ll i] 0).6 [nthL [nthL ll i] 0]) 0)) (bi (zax 3 (nthL (bi (nbeq (nthL [nthL ll i] 0).1 15) (nthL [nthL ll i] 0).6 [nthL [nthL ll i] 0]) (Nat.succ 0))) (bi (zax 7 (nthL (bi (nbeq (nthL [nthL ll i] 0).1 15) (nthL [nthL ll i] 0).6 [nthL [nthL ll i] 0]) (Nat.succ 0).succ)) (bi (zax 9 (nthL (bi (nbeq (nthL [nthL ll i] 0).1 15) (nthL [nthL ll i] 0).6 [nthL [nthL ll i] 0]) (Nat.succ 0).succ.succ)) (bi (zax 37 (nthL (bi (nbeq (nthL [nthL ll i] 0).1 15) (nthL [nthL ll i] 0).6 [nthL [nthL ll i] 0]) (Nat.succ 0).succ.succ.succ)) true false) false) false) false) false)
 (bi (nbeq (okN (zac PT 53 [⟨15,0,0,0,0,[(i64 ((nthL (bi (nbeq (nthL [nthL ll i] 0).1 15) (nthL [nthL ll i] 0).6 [nthL [nthL ll i] 0]) 0).2)),(i64 ((nthL (bi (nbeq (nthL [nthL ll i] 0).1 15) (nthL [nthL ll i] 0).6 [nthL [nthL ll i] 0]) (Nat.succ 0)).2)),(u64 ((nthL (bi (nbeq (nthL [nthL ll i] 0).1 15) (nthL [nthL ll i] 0).6 [nthL [nthL ll i] 0]) (Nat.succ 0).succ).2)),(stA ((nthL (bi (nbeq (nthL [nthL ll i] 0).1 15) (nthL [nthL ll i] 0).6 [nthL [nthL ll i] 0]) (Nat.succ 0).succ.succ).3) ((nthL (bi (nbeq (nthL [nthL ll i] 0).1 15) (nthL [nthL ll i] 0).6 [nthL [nthL ll i] 0]) (Nat.succ 0).succ.succ).2)),⟨24,(nthL (bi (nbeq (nthL [nthL ll i] 0).1 15) (nthL [nthL ll i] 0).6 [nthL [nthL ll i] 0]) (Nat.succ 0).succ.succ.succ).2,0,5,0,(nthL (bi (nbeq (nthL [nthL ll i] 0).1 15) (nthL [nthL ll i] 0).6 [nthL [nthL ll i] 0]) (Nat.succ 0).succ.succ.succ).6⟩]⟩] ⟨3,zed ⟨15,0,0,0,0,[(i64 ((nthL (bi (nbeq (nthL [nthL ll i] 0).1 15) (nthL [nthL ll i] 0).6 [nthL [nthL ll i] 0]) 0).2)),(i64 ((nthL (bi (nbeq (nthL [nthL ll i] 0).1 15) (nthL [nthL ll i] 0).6 [nthL [nthL ll i] 0]) (Nat.succ 0)).2)),(u64 ((nthL (bi (nbeq (nthL [nthL ll i] 0).1 15) (nthL [nthL ll i] 0).6 [nthL [nthL ll i] 0]) (Nat.succ 0).succ).2)),(stA ((nthL (bi (nbeq (nthL [nthL ll i] 0).1 15) (nthL [nthL ll i] 0).6 [nthL [nthL ll i] 0]) (Nat.succ 0).succ.succ).3) ((nthL (bi (nbeq (nthL [nthL ll i] 0).1 15) (nthL [nthL ll i] 0).6 [nthL [nthL ll i] 0]) (Nat.succ 0).succ.succ).2)),⟨24,(nthL (bi (nbeq (nthL [nthL ll i] 0).1 15) (nthL [nthL ll i] 0).6 [nthL [nthL ll i] 0]) (Nat.succ 0).succ.succ.succ).2,0,5,0,(nthL (bi (nbeq (nthL [nthL ll i] 0).1 15) (nthL [nthL ll i] 0).6 [nthL [nthL ll i] 0]) (Nat.succ 0).succ.succ.succ).6⟩]⟩,0,0,0,[]⟩)) 1)
 (J [0,0,1,0,1,1] [⟨3,bi (nble (biased 3 m) (biased 3 (zed ⟨15,0,0,0,0,[(i64 ((nthL (bi (nbeq (nthL [nthL ll i] 0).1 15) (nthL [nthL ll i] 0).6 [nthL [nthL ll i] 0]) 0).2)),(i64 ((nthL (bi (nbeq (nthL [nthL ll i] 0).1 15) (nthL [nthL ll i] 0).6 [nthL [nthL ll i] 0]) (Nat.succ 0)).2)),(u64 ((nthL (bi (nbeq (nthL [nthL ll i] 0).1 15) (nthL [nthL ll i] 0).6 [nthL [nthL ll i] 0]) (Nat.succ 0).succ).2)),(stA ((nthL (bi (nbeq (nthL [nthL ll i] 0).1 15) (nthL [nthL ll i] 0).6 [nthL [nthL ll i] 0]) (Nat.succ 0).succ.succ).3) ((nthL (bi (nbeq (nthL [nthL ll i] 0).1 15) (nthL [nthL ll i] 0).6 [nthL [nthL ll i] 0]) (Nat.succ 0).succ.succ).2)),⟨24,(nthL (bi (nbeq (nthL [nthL ll i] 0).1 15) (nthL [nthL ll i] 0).6 [nthL [nthL ll i] 0]) (Nat.succ 0).succ.succ.succ).2,0,5,0,(nthL (bi (nbeq (nthL [nthL ll i] 0).1 15) (nthL [nthL ll i] 0).6 [nthL [nthL ll i] 0]) (Nat.succ 0).succ.succ.succ).6⟩]⟩))) (zed ⟨15,0,0,0,0,[(i64 ((nthL (bi (nbeq (nthL [nthL ll i] 0).1 15) (nthL [nthL ll i] 0).6 [nthL [nthL ll i] 0]) 0).2)),(i64 ((nthL (bi (nbeq (nthL [nthL ll i] 0).1 15) (nthL [nthL ll i] 0).6 [nthL [nthL ll i] 0]) (Nat.succ 0)).2)),(u64 ((nthL (bi (nbeq (nthL [nthL ll i] 0).1 15) (nthL [nthL ll i] 0).6 [nthL [nthL ll i] 0]) (Nat.succ 0).succ).2)),(stA ((nthL (bi (nbeq (nthL [nthL ll i] 0).1 15) (nthL [nthL ll i] 0).6 [nthL [nthL ll i] 0]) (Nat.succ 0).succ.succ).3) ((nthL (bi (nbeq (nthL [nthL ll i] 0).1 15) (nthL [nthL ll i] 0).6 [nthL [nthL ll i] 0]) (Nat.succ 0).succ.succ).2)),⟨24,(nthL (bi (nbeq (nthL [nthL ll i] 0).1 15) (nthL [nthL ll i] 0).6 [nthL [nthL ll i] 0]) (Nat.succ 0).succ.succ.succ).2,0,5,0,(nthL (bi (nbeq (nthL [nthL ll i] 0).1 15) (nthL [nthL ll i] 0).6 [nthL [nthL ll i] 0]) (Nat.succ 0).succ.succ.succ).6⟩]⟩) m,0,0,0,[]⟩,⟨24,lp,0,5,0,ll⟩,(i64 n),(i64 (zaR i 1))])
 (zab 301))
 (zab 201))
 (zab 205))
 (ansY (i64 (zaR m 1)))):=by kernel_rfl
theorem s56(J:Jmp)(x:Nat):(zaB Tryz.prog 9 (fun _=>none) (finY Tryz.prog [.tmp 2] [4]) J [] (zad Tryz.f56) (finY Tryz.prog [.tmp 2] [4]) []).run RJ (zar 0 [i64 x] noFr) (zaf Tryz.prog) =
  (bi (nbeq (bi (nbeq x 24) 1 0) 0)
 (ansY (mk1 8 (bi (nbeq x 25) 1 0)))
 (ansY (mk1 8 1))):=by kernel_rfl
theorem s126(J:Jmp)(to tw tv tq tn tp:Nat)(tl:List AV):(zaB Tryz.prog 11 (fun _=>none) (finY Tryz.prog [.tmp 2] [4]) J [] (zad Tryz.f126) (finY Tryz.prog [.tmp 2] [4]) []).run RJ (zar 0 [tmV to tw tv tq tn tp tl] noFr) (zaf Tryz.prog) =
  (bi (nbeq (bi (nbeq to 24) 1 0) 0)
 (ansY (mk1 8 (bi (nbeq to 25) 1 0)))
 (ansY (mk1 8 1))):=by kernel_rfl
theorem s61(J:Jmp)(to tw tv tq tn tp m:Nat)(tl:List AV):(zaB Tryz.prog 9 (fun _=>none) (finY Tryz.prog [.tmp 4] [4]) J [] (zad Tryz.f61) (finY Tryz.prog [.tmp 4] [4]) []).run RJ (zar 0 [tmV to tw tv tq tn tp tl,i64 m] noFr) (zaf Tryz.prog) =
  (bi (nbeq (okN (zac PT 124 [⟨15,0,0,0,0,[(i64 to),(i64 tw),(u64 tv),(stA tq tn),⟨24,tp,0,5,0,tl⟩]⟩,(i64 m)] ⟨3,zel ⟨15,0,0,0,0,[(i64 to),(i64 tw),(u64 tv),(stA tq tn),⟨24,tp,0,5,0,tl⟩]⟩ m,0,0,0,[]⟩)) 1)
 (ansY ⟨8,bi (nble 9223372036854775808 (biased 3 (zel ⟨15,0,0,0,0,[(i64 to),(i64 tw),(u64 tv),(stA tq tn),⟨24,tp,0,5,0,tl⟩]⟩ m))) 1 0,0,0,0,[]⟩)
 (zab 301)):=by kernel_rfl
theorem s62(J:Jmp)(to tw tv tq tn tp m:Nat)(tl:List AV):(zaB Tryz.prog 23 zmE (finY Tryz.prog [.tmp 4] [4]) J [] (zad Tryz.f62) (finY Tryz.prog [.tmp 4] [4]) []).run RJ (zar 0 [tmV to tw tv tq tn tp tl,i64 m] noFr) (zaf Tryz.prog) =
  (bi (nbeq (bi (nb (nble 9223372036854775809 (biased 3 m))) 1 0) 1)
 (ansY (mk1 8 1))
 (J [0,0,1,0,1,1] [(i64 m),⟨16,0,0,1,0,[(i64 to),(i64 tw),(u64 tv),(stA tq tn),⟨24,tp,0,5,0,tl⟩]⟩,(i64 0)])):=by kernel_rfl
theorem s124(J:Jmp)(to tw tv tq tn tp m:Nat)(tl:List AV):(zaB Tryz.prog 25 zkp (finY Tryz.prog [.tmp 4] [3]) J [] (zad Tryz.f124) (finY Tryz.prog [.tmp 4] [3]) []).run RJ (zar 0 [tmV to tw tv tq tn tp tl,i64 m] noFr) (zaf Tryz.prog) =
  (J [0,0,1,0,1,1] [(i64 (zfH m 1)),⟨16,0,0,1,0,[(i64 to),(i64 tw),(u64 tv),(stA tq tn),⟨24,tp,0,5,0,tl⟩]⟩,(i64 (lenL tl)),(i64 0)]):=by kernel_rfl
theorem l62(J:Jmp)(m to tw tv tq tn tp i:Nat)(tl:List AV):lblY Tryz.prog 23 zmE (zaf Tryz.prog) RJ (finY Tryz.prog [.tmp 4] [4]) (zad Tryz.f62) J [0,0,1,0,1,1] [i64 m,bxD [i64 to,i64 tw,u64 tv,stA tq tn,slP tp 5 tl],i64 i] =
  (bi (nbeq (bi (nb (nble (biased 3 (lenL tl)) (biased 3 i))) 1 0) 1)
 (bi (nble i.succ (lenL tl))
 (bi (bi (zax 3 (nthL (bi (nbeq (nthL [nthL tl i] 0).1 15) (nthL [nthL tl i] 0).6 [nthL [nthL tl i] 0]) 0)) (bi (zax 3 (nthL (bi (nbeq (nthL [nthL tl i] 0).1 15) (nthL [nthL tl i] 0).6 [nthL [nthL tl i] 0]) (Nat.succ 0))) (bi (zax 7 (nthL (bi (nbeq (nthL [nthL tl i] 0).1 15) (nthL [nthL tl i] 0).6 [nthL [nthL tl i] 0]) (Nat.succ 0).succ)) (bi (zax 9 (nthL (bi (nbeq (nthL [nthL tl i] 0).1 15) (nthL [nthL tl i] 0).6 [nthL [nthL tl i] 0]) (Nat.succ 0).succ.succ)) (bi (zax 37 (nthL (bi (nbeq (nthL [nthL tl i] 0).1 15) (nthL [nthL tl i] 0).6 [nthL [nthL tl i] 0]) (Nat.succ 0).succ.succ.succ)) true false) false) false) false) false)
 (bi (nbeq (okN (zac PT 62 [⟨15,0,0,0,0,[(i64 ((nthL (bi (nbeq (nthL [nthL tl i] 0).1 15) (nthL [nthL tl i] 0).6 [nthL [nthL tl i] 0]) 0).2)),(i64 ((nthL (bi (nbeq (nthL [nthL tl i] 0).1 15) (nthL [nthL tl i] 0).6 [nthL [nthL tl i] 0]) (Nat.succ 0)).2)),(u64 ((nthL (bi (nbeq (nthL [nthL tl i] 0).1 15) (nthL [nthL tl i] 0).6 [nthL [nthL tl i] 0]) (Nat.succ 0).succ).2)),(stA ((nthL (bi (nbeq (nthL [nthL tl i] 0).1 15) (nthL [nthL tl i] 0).6 [nthL [nthL tl i] 0]) (Nat.succ 0).succ.succ).3) ((nthL (bi (nbeq (nthL [nthL tl i] 0).1 15) (nthL [nthL tl i] 0).6 [nthL [nthL tl i] 0]) (Nat.succ 0).succ.succ).2)),⟨24,(nthL (bi (nbeq (nthL [nthL tl i] 0).1 15) (nthL [nthL tl i] 0).6 [nthL [nthL tl i] 0]) (Nat.succ 0).succ.succ.succ).2,0,5,0,(nthL (bi (nbeq (nthL [nthL tl i] 0).1 15) (nthL [nthL tl i] 0).6 [nthL [nthL tl i] 0]) (Nat.succ 0).succ.succ.succ).6⟩]⟩,(i64 (zfH m 1))] ⟨8,bi (zdu ⟨15,0,0,0,0,[(i64 ((nthL (bi (nbeq (nthL [nthL tl i] 0).1 15) (nthL [nthL tl i] 0).6 [nthL [nthL tl i] 0]) 0).2)),(i64 ((nthL (bi (nbeq (nthL [nthL tl i] 0).1 15) (nthL [nthL tl i] 0).6 [nthL [nthL tl i] 0]) (Nat.succ 0)).2)),(u64 ((nthL (bi (nbeq (nthL [nthL tl i] 0).1 15) (nthL [nthL tl i] 0).6 [nthL [nthL tl i] 0]) (Nat.succ 0).succ).2)),(stA ((nthL (bi (nbeq (nthL [nthL tl i] 0).1 15) (nthL [nthL tl i] 0).6 [nthL [nthL tl i] 0]) (Nat.succ 0).succ.succ).3) ((nthL (bi (nbeq (nthL [nthL tl i] 0).1 15) (nthL [nthL tl i] 0).6 [nthL [nthL tl i] 0]) (Nat.succ 0).succ.succ).2)),⟨24,(nthL (bi (nbeq (nthL [nthL tl i] 0).1 15) (nthL [nthL tl i] 0).6 [nthL [nthL tl i] 0]) (Nat.succ 0).succ.succ.succ).2,0,5,0,(nthL (bi (nbeq (nthL [nthL tl i] 0).1 15) (nthL [nthL tl i] 0).6 [nthL [nthL tl i] 0]) (Nat.succ 0).succ.succ.succ).6⟩]⟩ (zfH m 1)) 1 0,0,0,0,[]⟩)) 1)
 (bi (nbeq (bi (zdu ⟨15,0,0,0,0,[(i64 ((nthL (bi (nbeq (nthL [nthL tl i] 0).1 15) (nthL [nthL tl i] 0).6 [nthL [nthL tl i] 0]) 0).2)),(i64 ((nthL (bi (nbeq (nthL [nthL tl i] 0).1 15) (nthL [nthL tl i] 0).6 [nthL [nthL tl i] 0]) (Nat.succ 0)).2)),(u64 ((nthL (bi (nbeq (nthL [nthL tl i] 0).1 15) (nthL [nthL tl i] 0).6 [nthL [nthL tl i] 0]) (Nat.succ 0).succ).2)),(stA ((nthL (bi (nbeq (nthL [nthL tl i] 0).1 15) (nthL [nthL tl i] 0).6 [nthL [nthL tl i] 0]) (Nat.succ 0).succ.succ).3) ((nthL (bi (nbeq (nthL [nthL tl i] 0).1 15) (nthL [nthL tl i] 0).6 [nthL [nthL tl i] 0]) (Nat.succ 0).succ.succ).2)),⟨24,(nthL (bi (nbeq (nthL [nthL tl i] 0).1 15) (nthL [nthL tl i] 0).6 [nthL [nthL tl i] 0]) (Nat.succ 0).succ.succ.succ).2,0,5,0,(nthL (bi (nbeq (nthL [nthL tl i] 0).1 15) (nthL [nthL tl i] 0).6 [nthL [nthL tl i] 0]) (Nat.succ 0).succ.succ.succ).6⟩]⟩ (zfH m 1)) 1 0) 1)
 (ansY (mk1 8 1))
 (J [0,0,1,0,1,1] [(i64 m),⟨16,0,0,1,0,[(i64 to),(i64 tw),(u64 tv),(stA tq tn),⟨24,tp,0,5,0,tl⟩]⟩,(i64 (zaR i 1))]))
 (zab 301))
 (zab 201))
 (zab 205))
 (ansY (mk1 8 0))):=by kernel_rfl
theorem l124(J:Jmp)(m to tw tv tq tn tp n i:Nat)(tl:List AV):lblY Tryz.prog 25 zkp (zaf Tryz.prog) RJ (finY Tryz.prog [.tmp 4] [3]) (zad Tryz.f124) J [0,0,1,0,1,1] [i64 m,bxD [i64 to,i64 tw,u64 tv,stA tq tn,slP tp 5 tl],i64 n,i64 i] =
  (bi (nbeq (bi (nb (nble (biased 3 n) (biased 3 i))) 1 0) 1)
 (bi (nbeq (bi (nb (nble 9223372036854775808 (biased 3 m))) 1 0) 1)
 (ansY (i64 18446744073709551615))
 (bi (nble i.succ (lenL tl))
 (bi (bi (zax 3 (nthL (bi (nbeq (nthL [nthL tl i] 0).1 15) (nthL [nthL tl i] 0).6 [nthL [nthL tl i] 0]) 0)) (bi (zax 3 (nthL (bi (nbeq (nthL [nthL tl i] 0).1 15) (nthL [nthL tl i] 0).6 [nthL [nthL tl i] 0]) (Nat.succ 0))) (bi (zax 7 (nthL (bi (nbeq (nthL [nthL tl i] 0).1 15) (nthL [nthL tl i] 0).6 [nthL [nthL tl i] 0]) (Nat.succ 0).succ)) (bi (zax 9 (nthL (bi (nbeq (nthL [nthL tl i] 0).1 15) (nthL [nthL tl i] 0).6 [nthL [nthL tl i] 0]) (Nat.succ 0).succ.succ)) (bi (zax 37 (nthL (bi (nbeq (nthL [nthL tl i] 0).1 15) (nthL [nthL tl i] 0).6 [nthL [nthL tl i] 0]) (Nat.succ 0).succ.succ.succ)) true false) false) false) false) false)
 (bi (nbeq (okN (zac PT 124 [⟨15,0,0,0,0,[(i64 ((nthL (bi (nbeq (nthL [nthL tl i] 0).1 15) (nthL [nthL tl i] 0).6 [nthL [nthL tl i] 0]) 0).2)),(i64 ((nthL (bi (nbeq (nthL [nthL tl i] 0).1 15) (nthL [nthL tl i] 0).6 [nthL [nthL tl i] 0]) (Nat.succ 0)).2)),(u64 ((nthL (bi (nbeq (nthL [nthL tl i] 0).1 15) (nthL [nthL tl i] 0).6 [nthL [nthL tl i] 0]) (Nat.succ 0).succ).2)),(stA ((nthL (bi (nbeq (nthL [nthL tl i] 0).1 15) (nthL [nthL tl i] 0).6 [nthL [nthL tl i] 0]) (Nat.succ 0).succ.succ).3) ((nthL (bi (nbeq (nthL [nthL tl i] 0).1 15) (nthL [nthL tl i] 0).6 [nthL [nthL tl i] 0]) (Nat.succ 0).succ.succ).2)),⟨24,(nthL (bi (nbeq (nthL [nthL tl i] 0).1 15) (nthL [nthL tl i] 0).6 [nthL [nthL tl i] 0]) (Nat.succ 0).succ.succ.succ).2,0,5,0,(nthL (bi (nbeq (nthL [nthL tl i] 0).1 15) (nthL [nthL tl i] 0).6 [nthL [nthL tl i] 0]) (Nat.succ 0).succ.succ.succ).6⟩]⟩,(i64 m)] ⟨3,zel ⟨15,0,0,0,0,[(i64 ((nthL (bi (nbeq (nthL [nthL tl i] 0).1 15) (nthL [nthL tl i] 0).6 [nthL [nthL tl i] 0]) 0).2)),(i64 ((nthL (bi (nbeq (nthL [nthL tl i] 0).1 15) (nthL [nthL tl i] 0).6 [nthL [nthL tl i] 0]) (Nat.succ 0)).2)),(u64 ((nthL (bi (nbeq (nthL [nthL tl i] 0).1 15) (nthL [nthL tl i] 0).6 [nthL [nthL tl i] 0]) (Nat.succ 0).succ).2)),(stA ((nthL (bi (nbeq (nthL [nthL tl i] 0).1 15) (nthL [nthL tl i] 0).6 [nthL [nthL tl i] 0]) (Nat.succ 0).succ.succ).3) ((nthL (bi (nbeq (nthL [nthL tl i] 0).1 15) (nthL [nthL tl i] 0).6 [nthL [nthL tl i] 0]) (Nat.succ 0).succ.succ).2)),⟨24,(nthL (bi (nbeq (nthL [nthL tl i] 0).1 15) (nthL [nthL tl i] 0).6 [nthL [nthL tl i] 0]) (Nat.succ 0).succ.succ.succ).2,0,5,0,(nthL (bi (nbeq (nthL [nthL tl i] 0).1 15) (nthL [nthL tl i] 0).6 [nthL [nthL tl i] 0]) (Nat.succ 0).succ.succ.succ).6⟩]⟩ m,0,0,0,[]⟩)) 1)
 (J [0,0,1,0,1,1] [⟨3,zel ⟨15,0,0,0,0,[(i64 ((nthL (bi (nbeq (nthL [nthL tl i] 0).1 15) (nthL [nthL tl i] 0).6 [nthL [nthL tl i] 0]) 0).2)),(i64 ((nthL (bi (nbeq (nthL [nthL tl i] 0).1 15) (nthL [nthL tl i] 0).6 [nthL [nthL tl i] 0]) (Nat.succ 0)).2)),(u64 ((nthL (bi (nbeq (nthL [nthL tl i] 0).1 15) (nthL [nthL tl i] 0).6 [nthL [nthL tl i] 0]) (Nat.succ 0).succ).2)),(stA ((nthL (bi (nbeq (nthL [nthL tl i] 0).1 15) (nthL [nthL tl i] 0).6 [nthL [nthL tl i] 0]) (Nat.succ 0).succ.succ).3) ((nthL (bi (nbeq (nthL [nthL tl i] 0).1 15) (nthL [nthL tl i] 0).6 [nthL [nthL tl i] 0]) (Nat.succ 0).succ.succ).2)),⟨24,(nthL (bi (nbeq (nthL [nthL tl i] 0).1 15) (nthL [nthL tl i] 0).6 [nthL [nthL tl i] 0]) (Nat.succ 0).succ.succ.succ).2,0,5,0,(nthL (bi (nbeq (nthL [nthL tl i] 0).1 15) (nthL [nthL tl i] 0).6 [nthL [nthL tl i] 0]) (Nat.succ 0).succ.succ.succ).6⟩]⟩ m,0,0,0,[]⟩,⟨16,0,0,1,0,[(i64 to),(i64 tw),(u64 tv),(stA tq tn),⟨24,tp,0,5,0,tl⟩]⟩,(i64 n),(i64 (zaR i 1))])
 (zab 301))
 (zab 201))
 (zab 205)))
 (ansY (i64 m))):=by kernel_rfl
theorem zzf:Tryz.f52.body=some (zad Tryz.f52):=by kernel_rfl
theorem fn52:Tryz.prog.funcs[52]?=some Tryz.f52:=by kernel_rfl
theorem nt52:Tryz.f52.ntmps=19:=by kernel_rfl
theorem rs52:Tryz.f52.results.toList=[.tmp 2]:=by kernel_rfl
theorem zzg:Tryz.f53.body=some (zad Tryz.f53):=by kernel_rfl
theorem fn53:Tryz.prog.funcs[53]?=some Tryz.f53:=by kernel_rfl
theorem nt53:Tryz.f53.ntmps=20:=by kernel_rfl
theorem rs53:Tryz.f53.results.toList=[.tmp 2]:=by kernel_rfl
theorem zzh:Tryz.f56.body=some (zad Tryz.f56):=by kernel_rfl
theorem fn56:Tryz.prog.funcs[56]?=some Tryz.f56:=by kernel_rfl
theorem nt56:Tryz.f56.ntmps=9:=by kernel_rfl
theorem rs56:Tryz.f56.results.toList=[.tmp 2]:=by kernel_rfl
theorem zww:Tryz.f126.body=some (zad Tryz.f126):=by kernel_rfl
theorem z2x:Tryz.prog.funcs[126]?=some Tryz.f126:=by kernel_rfl
theorem z2y:Tryz.f126.ntmps=11:=by kernel_rfl
theorem z2z:Tryz.f126.results.toList=[.tmp 2]:=by kernel_rfl
theorem zzi:Tryz.f61.body=some (zad Tryz.f61):=by kernel_rfl
theorem fn61:Tryz.prog.funcs[61]?=some Tryz.f61:=by kernel_rfl
theorem nt61:Tryz.f61.ntmps=9:=by kernel_rfl
theorem rs61:Tryz.f61.results.toList=[.tmp 4]:=by kernel_rfl
theorem zzj:Tryz.f62.body=some (zad Tryz.f62):=by kernel_rfl
theorem fn62:Tryz.prog.funcs[62]?=some Tryz.f62:=by kernel_rfl
theorem nt62:Tryz.f62.ntmps=23:=by kernel_rfl
theorem rs62:Tryz.f62.results.toList=[.tmp 4]:=by kernel_rfl
theorem zwx:Tryz.f124.body=some (zad Tryz.f124):=by kernel_rfl
theorem z20:Tryz.prog.funcs[124]?=some Tryz.f124:=by kernel_rfl
theorem z21:Tryz.f124.ntmps=25:=by kernel_rfl
theorem z22:Tryz.f124.results.toList=[.tmp 4]:=by kernel_rfl
theorem zjt(a b:List Tm):szTs (a++b)=szTs a+szTs b:=by
  induction a with
  | nil=>rw[szTs,Nat.zero_add];rfl
  | cons x a ih=>rw[List.cons_append,szTs,szTs,ih,Nat.add_assoc]
theorem zju(a b:List Tm):dpTs (a++b)=max (dpTs a) (dpTs b):=by
  induction a with
  | nil=>rw[dpTs,Nat.zero_max];rfl
  | cons x a ih=>rw[List.cons_append,dpTs,dpTs,ih,Nat.max_assoc]
theorem zgX(t:Tm):1≤szT t:=by cases t;rw[szT];omega
theorem zfO:∀ l:List Tm,l.length≤szTs l
  | []=>Nat.le_refl _
  | a::l=>by have:=zfO l;have:=zgX a;rw[szTs,List.length_cons];omega
theorem zeI:∀ {l:List Tm} {t:Tm},t ∈ l→szT t≤szTs l
  | a::l,t,h=>by
    rcases List.mem_cons.1 h with rfl | h
    · rw[szTs];omega
    · have:=zeI h;rw[szTs];omega
theorem zlj:∀ {l:List Tm} {t:Tm},t ∈ l→dpT t≤dpTs l
  | a::l,t,h=>by
    rcases List.mem_cons.1 h with rfl | h
    · rw[dpTs];omega
    · have:=zlj h;rw[dpTs];omega
theorem zlH(l:List Tm)(i:Nat):szTs (l.take i)≤szTs l:=by
  have:=zjt (l.take i) (l.drop i)
  rw[List.take_append_drop] at this;omega
theorem zrI(l:List Tm)(i:Nat):dpTs (l.take i)≤dpTs l:=by
  have:=zju (l.take i) (l.drop i)
  rw[List.take_append_drop] at this;omega
theorem zlI{l:List Tm}{i:Nat}(h:i<l.length):szTs (l.take (i+1))=szTs (l.take i)+szT l[i]:=by
  rw[List.take_succ_eq_append_getElem h,zjt,szTs,szTs,Nat.add_zero]
theorem zrJ{l:List Tm}{i:Nat}(h:i<l.length):dpTs (l.take (i+1))=max (dpTs (l.take i)) (dpT l[i]):=by
  rw[List.take_succ_eq_append_getElem h,zju,dpTs,dpTs,Nat.max_zero]
theorem z23:∀ t:Tm,dpT t≤szT t:=by
  intro t
  induction t using Tm.ind with
  | h op w v nq np p l ih =>
    rw[dpT,szT]
    have:∀ l:List Tm,(∀ t ∈ l,dpT t≤szT t)→dpTs l≤szTs l:=by
      intro l
      induction l with
      | nil=>intro _;rw[dpTs,szTs];omega
      | cons a l ihl=>intro h;have h1:=h a (by simp);have h2:=ihl (fun t ht=>h t (by simp[ht]));rw[dpTs,szTs];omega
    have:=this l ih
    omega
theorem zoE(t:Tm):zez (tmA t)=szT t:=by unfold zez;rw[zaZ]
theorem zoF(t:Tm):zed (tmA t)=dpT t:=by unfold zed;rw[zaZ]
theorem ziv(t:Tm)(n:Nat):zel (tmA t) n=n - szT t:=by unfold zel;rw[zaZ]
theorem zlJ(t:Tm)(n:Nat):zdu (tmA t) n=decide (n<dpT t):=by unfold zdu;rw[zaZ]
theorem zzk:∀ t:Tm,szT t<2 ^ 62→zac Tryz.prog 52 [tmA t] (i64 (zez (tmA t))):=by
  intro t
  induction t using Tm.ind with
  | h op w v nq np p X ih =>
  intro hs
  rw[zoE,szT];rw[szT] at hs
  have hX:=zfO X
  have h:=zd0 (n:=X.length) (L:=fun k i=>jmpN Tryz.prog 19 zgv (zaf Tryz.prog) RJ (finY Tryz.prog [.tmp 2] [3]) (zad Tryz.f52) k [0,0,1,0,1,1] [i64 (1+szTs (X.take i)),slP p 5 (X.map tmA),i64 X.length,i64 i]) (A:=fun _=>ansY (i64 (1+szTs X))) (fun k=>?_) (fun k i hi ih2=>?_) X.length 0 (by omega)
  · rw[zaP]
    refine zaF mixed globs fn52 zzf nt52 rs52 zbQ zgv [3] (X.length+1) ((s52 _ op w v nq np p (X.map tmA)).trans ?_)
    rw[zau]
    exact h
  · show jmpN _ _ _ _ _ _ _ (k+1) _ _=_
    rw[zal,l52,ctr (by omega) (by omega),if_neg (by omega),List.take_length]
  · show jmpN _ _ _ _ _ _ _ (k+1) _ _=_
    have hm:=zeI (List.getElem_mem hi)
    have q:=zak.2 (ih X[i] (List.getElem_mem hi) (by omega))
    have hst:=zlI hi
    have htk:=zlH X (i+1)
    rw[zal,l52,ctr (by omega) (by omega),if_pos hi,zau,zbh (show i.succ≤X.length from hi),zae,zca tmA X i hi]
    simp only[nth1,zcZ,n5_0,n5_1,n5_2,n5_3,n5_4,tg_i,tg_u,tg_s,tg_l,zcQ,zh5,zdI,zdJ,zh6,zfM,zaE,zaL,zd6,zbe,zd7,zd1,zf1,zec,q,zao,n11,zae,zcf (show i<2 ^ 63 by omega)]
    rw[zoE,zo1 (by omega),Nat.add_assoc,← hst]
    exact ih2
theorem zzl:∀ t:Tm,szT t<2 ^ 62→zac Tryz.prog 53 [tmA t] (i64 (zed (tmA t))):=by
  intro t
  induction t using Tm.ind with
  | h op w v nq np p X ih =>
  intro hs
  have hds:=z23 (.mk op w v nq np p X)
  rw[zoF,dpT];rw[szT] at hs;rw[dpT,szT] at hds
  have hX:=zfO X
  have h:=zd0 (n:=X.length) (L:=fun k i=>jmpN Tryz.prog 20 zgv (zaf Tryz.prog) RJ (finY Tryz.prog [.tmp 2] [3]) (zad Tryz.f53) k [0,0,1,0,1,1] [i64 (dpTs (X.take i)),slP p 5 (X.map tmA),i64 X.length,i64 i]) (A:=fun _=>ansY (i64 (dpTs X+1))) (fun k=>?_) (fun k i hi ih2=>?_) X.length 0 (by omega)
  · rw[zaP]
    refine zaF mixed globs fn53 zzg nt53 rs53 zbQ zgv [3] (X.length+1) ((s53 _ op w v nq np p (X.map tmA)).trans ?_)
    rw[zau]
    exact h
  · show jmpN _ _ _ _ _ _ _ (k+1) _ _=_
    rw[zal,l53,ctr (by omega) (by omega),if_neg (by omega),List.take_length,zo1 (by omega)]
  · show jmpN _ _ _ _ _ _ _ (k+1) _ _=_
    have hm:=zeI (List.getElem_mem hi)
    have hdm:=zlj (List.getElem_mem hi)
    have q:=zak.2 (ih X[i] (List.getElem_mem hi) (by omega))
    have hst:=zrJ hi
    have htk:=zrI X i
    rw[zal,l53,ctr (by omega) (by omega),if_pos hi,zau,zbh (show i.succ≤X.length from hi),zae,zca tmA X i hi]
    simp only[nth1,zcZ,n5_0,n5_1,n5_2,n5_3,n5_4,tg_i,tg_u,tg_s,tg_l,zcQ,zh5,zdI,zdJ,zh6,zfM,zaE,zaL,zd6,zbe,zd7,zd1,zf1,zec,q,zao,n11,zae,zcf (show i<2 ^ 63 by omega)]
    rw[zoF,zbC (by omega) (by omega)]
    have e:bi (decide (dpTs (X.take i)≤dpT X[i])) (dpT X[i]) (dpTs (X.take i))=dpTs (X.take (i+1)):=by
      rw[hst,zm7];simp only[decide_eq_true_eq];split<;>omega
    rw[e]
    exact ih2
theorem zrK(x:Nat):zac Tryz.prog 56 [i64 x] (bV (varB x)):=by
  refine zaF mixed globs fn56 zzh nt56 rs56 zbQ (fun _=>none) [4] 0 ((s56 _ x).trans ?_)
  rw[b0];unfold varB
  cases nbeq x 24<;>rfl
theorem zoG(t:Tm):zac Tryz.prog 126 [tmA t] (bV (varB t.op)):=by
  obtain⟨op,w,v,nq,np,p,X⟩:=t
  rw[zaP]
  refine zaF mixed globs z2x zww z2y z2z zbQ (fun _=>none) [4] 0 ((s126 _ op w v nq np p (X.map tmA)).trans ?_)
  rw[b0];unfold varB;show _=ansY (bV (bi (nbeq op 24) true (nbeq op 25)))
  cases nbeq op 24<;>rfl
theorem zwy:∀ (t:Tm) (n:Nat),szT t≤n→n<2 ^ 62→zac Tryz.prog 124 [tmA t,i64 n] (i64 (zel (tmA t) n)):=by
  intro t
  induction t using Tm.ind with
  | h op w v nq np p X ih =>
  intro n hs hn
  rw[ziv,szT];rw[szT] at hs
  have hX:=zfO X
  have h:=zd0 (n:=X.length) (L:=fun k i=>jmpN Tryz.prog 25 zkp (zaf Tryz.prog) RJ (finY Tryz.prog [.tmp 4] [3]) (zad Tryz.f124) k [0,0,1,0,1,1] [i64 (n - (1+szTs (X.take i))),bxD [i64 op,i64 w,u64 v,stA nq np,slP p 5 (X.map tmA)],i64 X.length,i64 i]) (A:=fun _=>ansY (i64 (n - (1+szTs X)))) (fun k=>?_) (fun k i hi ih2=>?_) X.length 0 (by omega)
  · rw[zaP]
    refine zaF mixed globs z20 zwx z21 z22 zbQ zkp [3] (X.length+1) ((s124 _ op w v nq np p n (X.map tmA)).trans ?_)
    rw[zau,zo0 (by omega) (by omega)]
    exact h
  · show jmpN _ _ _ _ _ _ _ (k+1) _ _=_
    rw[zal,l124,ctr (by omega) (by omega),if_neg (by omega),List.take_length]
  · show jmpN _ _ _ _ _ _ _ (k+1) _ _=_
    have hst:=zlI hi
    have htk:=zlH X (i+1)
    have q:=zak.2 (ih X[i] (List.getElem_mem hi) (n - (1+szTs (X.take i))) (by omega) (by omega))
    rw[zal,l124,ctr (by omega) (by omega),if_pos hi,zcm (show n - (1+szTs (X.take i))<2 ^ 63 by omega),zbh (show 9223372036854775808≤n - (1+szTs (X.take i))+2 ^ 63 by omega),nb_t,zao,zaj,zau,zbh (show i.succ≤X.length from hi),zae,zca tmA X i hi]
    simp only[nth1,zcZ,n5_0,n5_1,n5_2,n5_3,n5_4,tg_i,tg_u,tg_s,tg_l,zcQ,zh5,zdI,zdJ,zh6,zfM,zaE,zaL,zd6,zbe,zd7,zd1,zf1,zec,q,zao,n11,zae,zcf (show i<2 ^ 63 by omega)]
    rw[ziv,show n - (1+szTs (X.take i)) - szT X[i]=n - (1+szTs (X.take (i+1))) by omega]
    exact ih2
theorem zzm(t:Tm)(n:Nat)(h1:szT t≤n)(h2:n<2 ^ 62):zac Tryz.prog 61 [tmA t,i64 n] (bV (zd8 (tmA t) n)):=by
  have q:=zak.2 (zwy t n h1 h2)
  have e:zd8 (tmA t) n=true:=by unfold zd8;rw[zaZ];exact decide_eq_true h1
  have e2:=ziv t n
  obtain⟨op,w,v,nq,np,p,X⟩:=t
  rw[e]
  rw[zaP] at *
  refine zaF mixed globs fn61 zzi nt61 rs61 zbQ (fun _=>none) [4] 0 ((s61 _ op w v nq np p n (X.map tmA)).trans ?_)
  simp only[zbe,zd7,zrA,zaE,q,n11,zae]
  rw[e2,zcm (by omega),zbh (by omega)];rfl
theorem zzn:∀ (t:Tm) (n:Nat),dpT t≤n→n<2 ^ 62→szT t<2 ^ 62→zac Tryz.prog 62 [tmA t,i64 n] (bV (zdu (tmA t) n)):=by
  intro t
  induction t using Tm.ind with
  | h op w v nq np p X ih =>
  intro n hs hn hz
  rw[zlJ,decide_eq_false (by omega)]
  rw[dpT] at hs;rw[szT] at hz
  have hX:=zfO X
  have h:=zd0 (n:=X.length) (L:=fun k i=>jmpN Tryz.prog 23 zmE (zaf Tryz.prog) RJ (finY Tryz.prog [.tmp 4] [4]) (zad Tryz.f62) k [0,0,1,0,1,1] [i64 n,bxD [i64 op,i64 w,u64 v,stA nq np,slP p 5 (X.map tmA)],i64 i]) (A:=fun _=>ansY (bV false)) (fun k=>?_) (fun k i hi ih2=>?_) X.length 0 (by omega)
  · rw[zaP]
    refine zaF mixed globs fn62 zzj nt62 rs62 zbQ zmE [4] (X.length+1) ((s62 _ op w v nq np p n (X.map tmA)).trans ?_)
    rw[zcm (by omega),zbh (by omega),nb_t,zao,zaj]
    exact h
  · show jmpN _ _ _ _ _ _ _ (k+1) _ _=_
    rw[zal,l62,zau,ctr (by omega) (by omega),if_neg (by omega)];rfl
  · show jmpN _ _ _ _ _ _ _ (k+1) _ _=_
    have hdm:=zlj (List.getElem_mem hi)
    have hsm:=zeI (List.getElem_mem hi)
    have q:=zak.2 (ih X[i] (List.getElem_mem hi) (n - 1) (by omega) (by omega) (by omega))
    have e:=zlJ X[i] (n - 1)
    rw[decide_eq_false (by omega)] at e
    rw[e] at q
    have q:okN (zac PT 62 [tmA X[i],i64 (n - 1)] (mk1 8 0))=1:=q
    rw[zal,l62,zau,ctr (by omega) (by omega),if_pos hi,zbh (show i.succ≤X.length from hi),zae,zca tmA X i hi]
    simp only[nth1,zcZ,n5_0,n5_1,n5_2,n5_3,n5_4,tg_i,tg_u,tg_s,tg_l,zcQ,zh5,zdI,zdJ,zh6,zfM,zaE,zaL,zd6,zbe,zd7,zd1,zf1,zec,zo0 (show 1≤n by omega) (show n<2 ^ 64 by omega),e]
    simp only[mk_b,q,n11,n01,zao,zae,zaj,zcf (show i<2 ^ 63 by omega)]
    exact ih2
end Go.Eng
namespace Go.Eng
open Go.RowKit Go.Proofs
set_option maxRecDepth 4000
theorem s162(J:Jmp)(sq sn:Nat):(zaB Tryz.prog 50 zit (finY Tryz.prog [.tmp 2] [4]) J [] (zad Tryz.f162) (finY Tryz.prog [.tmp 2] [4]) []).run RJ (zar 0 [stA sq sn] noFr) (zaf Tryz.prog) =
  (bi (nble sq 4611686018427387904)
 (bi (nbeq (bi (nb (nble 9223372036854775809 (biased 3 sq))) 1 0) 0)
 (bi (nble sq 4611686018427387904)
 (bi (nbeq (bi (nb (nble (biased 3 sq) 9223372036854775824)) 1 0) 0)
 (bi (bi
  (nble 0 (Nat.pred sq))
  true false)
 (bi (nbeq sq 0)
 (zab 17)
 (bi (nbeq (bi (nb (nble 97 (biased 4 (zbf (stA sq sn) 0)))) 1 0) 0)
 (bi (bi
  (nble 0 (Nat.pred sq))
  true false)
 (bi (nbeq sq 0)
 (zab 17)
 (bi (nbeq (bi (nb (nble (biased 4 (zbf (stA sq sn) 0)) 122)) 1 0) 1)
 (ansY (mk1 8 0))
 (bi (nble sq 4611686018427387904)
 (J [0,0,1,0,1,1] [(stA sq sn),(i64 sq),(i64 0)])
 (zab 31))))
 (zab 17))
 (ansY (mk1 8 0))))
 (zab 17))
 (ansY (mk1 8 0)))
 (zab 31))
 (ansY (mk1 8 0)))
 (zab 31)):=by kernel_rfl
theorem s127(J:Jmp)(sq sn:Nat):(zaB Tryz.prog 52 ziu (finY Tryz.prog [.tmp 2] [4]) J [] (zad Tryz.f127) (finY Tryz.prog [.tmp 2] [4]) []).run RJ (zar 0 [stA sq sn] noFr) (zaf Tryz.prog) =
  (bi (nble sq 4611686018427387904)
 (bi (nbeq (bi (nb (nble 9223372036854775809 (biased 3 sq))) 1 0) 0)
 (bi (nble sq 4611686018427387904)
 (bi (nbeq (bi (nb (nble (biased 3 sq) 9223372036854775824)) 1 0) 0)
 (bi (bi
  (nble 0 (Nat.pred sq))
  true false)
 (bi (nbeq sq 0)
 (zab 17)
 (bi (nbeq (bi (nb (nble 97 (biased 4 (zbf (stA sq sn) 0)))) 1 0) 0)
 (bi (bi
  (nble 0 (Nat.pred sq))
  true false)
 (bi (nbeq sq 0)
 (zab 17)
 (bi (nbeq (bi (nb (nble (biased 4 (zbf (stA sq sn) 0)) 122)) 1 0) 1)
 (ansY (mk1 8 0))
 (J [0,0,1,0,1,1] [(stA sq sn),(i64 0)])))
 (zab 17))
 (ansY (mk1 8 0))))
 (zab 17))
 (ansY (mk1 8 0)))
 (zab 31))
 (ansY (mk1 8 0)))
 (zab 31)):=by kernel_rfl
theorem l162(J:Jmp)(sq sn n i:Nat):lblY Tryz.prog 50 zit (zaf Tryz.prog) RJ (finY Tryz.prog [.tmp 2] [4]) (zad Tryz.f162) J [0,0,1,0,1,1] [stA sq sn,i64 n,i64 i] =
  (bi (nbeq (bi (nb (nble (biased 3 n) (biased 3 i))) 1 0) 1)
 (bi (bi
  (nble i (Nat.pred sq))
  (nb (zbb 3 i)) false)
 (bi (nbeq sq 0)
 (zab 17)
 (bi (nbeq (bi (nb (nble 97 (biased 4 (zbf (stA sq sn) i)))) 1 0) 0)
 (bi (nbeq (bi (nb (nble (biased 4 (zbf (stA sq sn) i)) 122)) 1 0) 1)
 (bi (nbeq (bi (nb (nble 48 (biased 4 (zbf (stA sq sn) i)))) 1 0) 0)
 (bi (nbeq (bi (nb (nble (biased 4 (zbf (stA sq sn) i)) 57)) 1 0) 1)
 (bi (nbeq (bi (nb (nbeq (zbf (stA sq sn) i) 95)) 1 0) 1)
 (ansY (mk1 8 0))
 (J [0,0,1,0,1,1] [(stA sq sn),(i64 n),(i64 (zaR i 1))]))
 (J [0,0,1,0,1,1] [(stA sq sn),(i64 n),(i64 (zaR i 1))]))
 (bi (nbeq (bi (nb (nbeq (zbf (stA sq sn) i) 95)) 1 0) 1)
 (ansY (mk1 8 0))
 (J [0,0,1,0,1,1] [(stA sq sn),(i64 n),(i64 (zaR i 1))])))
 (J [0,0,1,0,1,1] [(stA sq sn),(i64 n),(i64 (zaR i 1))]))
 (bi (nbeq (bi (nb (nble 48 (biased 4 (zbf (stA sq sn) i)))) 1 0) 0)
 (bi (nbeq (bi (nb (nble (biased 4 (zbf (stA sq sn) i)) 57)) 1 0) 1)
 (bi (nbeq (bi (nb (nbeq (zbf (stA sq sn) i) 95)) 1 0) 1)
 (ansY (mk1 8 0))
 (J [0,0,1,0,1,1] [(stA sq sn),(i64 n),(i64 (zaR i 1))]))
 (J [0,0,1,0,1,1] [(stA sq sn),(i64 n),(i64 (zaR i 1))]))
 (bi (nbeq (bi (nb (nbeq (zbf (stA sq sn) i) 95)) 1 0) 1)
 (ansY (mk1 8 0))
 (J [0,0,1,0,1,1] [(stA sq sn),(i64 n),(i64 (zaR i 1))])))))
 (zab 17))
 (ansY (mk1 8 1))):=by kernel_rfl
theorem l127(J:Jmp)(sq sn i:Nat):lblY Tryz.prog 52 ziu (zaf Tryz.prog) RJ (finY Tryz.prog [.tmp 2] [4]) (zad Tryz.f127) J [0,0,1,0,1,1] [stA sq sn,i64 i] =
  (bi (nble sq 4611686018427387904)
 (bi (nbeq (bi (nb (nble (biased 3 sq) (biased 3 i))) 1 0) 1)
 (bi (bi
  (nble i (Nat.pred sq))
  (nb (zbb 3 i)) false)
 (bi (nbeq sq 0)
 (zab 17)
 (bi (nbeq (bi (nble 97 (biased 4 (zbf (stA sq sn) i))) 1 0) 1)
 (bi (nbeq (Nat.sub 1 (bi (nble (biased 4 (zbf (stA sq sn) i)) 122) 1 0)) 1)
 (bi (nbeq (bi (nble 48 (biased 4 (zbf (stA sq sn) i))) 1 0) 1)
 (bi (nbeq (Nat.sub 1 (bi (nble (biased 4 (zbf (stA sq sn) i)) 57) 1 0)) 1)
 (bi (nbeq (bi (nb (nbeq (zbf (stA sq sn) i) 95)) 1 0) 1)
 (ansY (mk1 8 0))
 (J [0,0,1,0,1,1] [(stA sq sn),(i64 (zaR i 1))]))
 (J [0,0,1,0,1,1] [(stA sq sn),(i64 (zaR i 1))]))
 (bi (nbeq (bi (nb (nbeq (zbf (stA sq sn) i) 95)) 1 0) 1)
 (ansY (mk1 8 0))
 (J [0,0,1,0,1,1] [(stA sq sn),(i64 (zaR i 1))])))
 (J [0,0,1,0,1,1] [(stA sq sn),(i64 (zaR i 1))]))
 (bi (nbeq (bi (nble 48 (biased 4 (zbf (stA sq sn) i))) 1 0) 1)
 (bi (nbeq (Nat.sub 1 (bi (nble (biased 4 (zbf (stA sq sn) i)) 57) 1 0)) 1)
 (bi (nbeq (bi (nb (nbeq (zbf (stA sq sn) i) 95)) 1 0) 1)
 (ansY (mk1 8 0))
 (J [0,0,1,0,1,1] [(stA sq sn),(i64 (zaR i 1))]))
 (J [0,0,1,0,1,1] [(stA sq sn),(i64 (zaR i 1))]))
 (bi (nbeq (bi (nb (nbeq (zbf (stA sq sn) i) 95)) 1 0) 1)
 (ansY (mk1 8 0))
 (J [0,0,1,0,1,1] [(stA sq sn),(i64 (zaR i 1))])))))
 (zab 17))
 (ansY (mk1 8 1)))
 (zab 31)):=by kernel_rfl
theorem zwz:Tryz.f162.body=some (zad Tryz.f162):=by kernel_rfl
theorem z24:Tryz.prog.funcs[162]?=some Tryz.f162:=by kernel_rfl
theorem z25:Tryz.f162.ntmps=50:=by kernel_rfl
theorem z26:Tryz.f162.results.toList=[.tmp 2]:=by kernel_rfl
theorem zw0:Tryz.f127.body=some (zad Tryz.f127):=by kernel_rfl
theorem z27:Tryz.prog.funcs[127]?=some Tryz.f127:=by kernel_rfl
theorem z28:Tryz.f127.ntmps=52:=by kernel_rfl
theorem z29:Tryz.f127.results.toList=[.tmp 2]:=by kernel_rfl
theorem zjf{x:Nat}(h:x<256):biased 4 x=x:=by
  have e:biased 4 x=(x+zbj 4) % kMod 4:=zbI _ x
  have h1:zbj 4=256:=by decide +kernel
  have h2:kMod 4=256:=by decide +kernel
  rw[e,h1,h2];omega
theorem zhC(a:AV)(i:Nat):zbf a i<256:=by
  unfold zbf;rw[zbD,zbI];exact Nat.mod_lt _ (by decide)
def zfj(q n i:Nat):Bool:=decide (∀ j,j<q→i≤j→chOk q n j=true)
theorem zks(q n:Nat):zfj q n q=true:=decide_eq_true fun j h1 h2=>absurd h1 (by omega)
theorem zjv{q n i:Nat}(h:i<q):zfj q n i=(chOk q n i && zfj q n (i+1)):=by
  unfold zfj
  rw[Bool.eq_iff_iff,Bool.and_eq_true,decide_eq_true_eq,decide_eq_true_eq]
  constructor
  · exact fun H=>⟨H i h (Nat.le_refl _),fun j h1 h2=>H j h1 (by omega)⟩
  · intro H j h1 h2
    by_cases e:j=i
    · subst e;exact H.1
    · exact H.2 j h1 (by omega)
theorem zv0(q n:Nat):zcc q n=(decide (1≤q) && (decide (q≤16) && (decide (97≤zbf (stA q n) 0) && (decide (zbf (stA q n) 0≤122) && zfj q n 0)))):=by
  unfold zcc zfj
  rw[Bool.eq_iff_iff]
  simp only[Bool.and_eq_true,decide_eq_true_eq,Nat.zero_le,true_implies]
theorem zv1{i q:Nat}(h:i<q)(hq:q<2 ^ 63):bi (nble i (Nat.pred q)) (nb (zbb 3 i)) false=true:=by
  unfold zbb
  rw[zbh (show i≤Nat.pred q by rw[Nat.pred_eq_sub_one];omega),zae,kh3',zfi (by omega),nb_f]
theorem z2A(J:Jmp)(q n i:Nat)(h:i<q)(hq:q<2 ^ 62):lblY Tryz.prog 50 zit (zaf Tryz.prog) RJ (finY Tryz.prog [.tmp 2] [4]) (zad Tryz.f162) J [0,0,1,0,1,1] [stA q n,i64 q,i64 i]=bi (chOk q n i) (J [0,0,1,0,1,1] [stA q n,i64 q,i64 (i+1)]) (ansY (mk1 8 0)):=by
  rw[l162,ctr (by omega) (by omega),if_pos h,zv1 h (by omega),zae,zaH q 0,decide_eq_false (show ¬ q=0 by omega),zaj,zcf (show i<2 ^ 63 by omega)]
  unfold chOk
  have hc:=zhC (stA q n) i
  rw[zjf hc]
  generalize zbf (stA q n) i=c
  simp only[zao,b0,zbN,zaH]
  by_cases h1:97≤c<;>by_cases h2:c≤122<;>by_cases h3:48≤c<;>by_cases h4:c≤57<;>by_cases h5:c=95<;>first | omega | (simp only[h1,h2,h3,h4,h5,decide_true,decide_false,nb_t,nb_f,zae,zaj,and_self,and_true,true_and,or_true,true_or,and_false,false_and,or_false,false_or];try rfl)
theorem z2B(J:Jmp)(q n i:Nat)(h:i<q)(hq:q<2 ^ 62):lblY Tryz.prog 52 ziu (zaf Tryz.prog) RJ (finY Tryz.prog [.tmp 2] [4]) (zad Tryz.f127) J [0,0,1,0,1,1] [stA q n,i64 i]=bi (chOk q n i) (J [0,0,1,0,1,1] [stA q n,i64 (i+1)]) (ansY (mk1 8 0)):=by
  rw[l127,zbh (show q≤4611686018427387904 by omega),zae,ctr (by omega) (by omega),if_pos h,zv1 h (by omega),zae,zaH q 0,decide_eq_false (show ¬ q=0 by omega),zaj,zcf (show i<2 ^ 63 by omega)]
  unfold chOk
  have hc:=zhC (stA q n) i
  rw[zjf hc]
  generalize zbf (stA q n) i=c
  simp only[zao,b0,bS,zbN,zaH]
  by_cases h1:97≤c<;>by_cases h2:c≤122<;>by_cases h3:48≤c<;>by_cases h4:c≤57<;>by_cases h5:c=95<;>first | omega | (simp only[h1,h2,h3,h4,h5,decide_true,decide_false,nb_t,nb_f,zae,zaj,and_self,and_true,true_and,or_true,true_or,and_false,false_and,or_false,false_or];try rfl)
theorem zw1(q n:Nat)(hq:q<2 ^ 62):zac Tryz.prog 162 [stA q n] (bV (zcc q n)):=by
  have h:=zd0 (n:=q) (L:=fun k i=>jmpN Tryz.prog 50 zit (zaf Tryz.prog) RJ (finY Tryz.prog [.tmp 2] [4]) (zad Tryz.f162) k [0,0,1,0,1,1] [stA q n,i64 q,i64 i]) (A:=fun i=>ansY (bV (zfj q n i))) (fun k=>?_) (fun k i hi ih2=>?_) q 0 (by omega)
  · refine zaF mixed globs z24 zwz z25 z26 zbQ zit [4] (q+1) ((s162 _ q n).trans ?_)
    rw[zv0,zbh (show q≤4611686018427387904 by omega),zae,zae,zcm (show q<2 ^ 63 by omega)]
    have hc:=zhC (stA q n) 0
    rw[zjf hc,zbh (Nat.zero_le _),zae,zae,zae,h]
    generalize zbf (stA q n) 0=c
    simp only[zao,b0,zbN,zaH]
    by_cases h0:1≤q
    · by_cases h1:q≤16
      · by_cases h2:97≤c<;>by_cases h3:c≤122<;>simp only[h0,h1,h2,h3,show ¬ q=0 by omega,show 9223372036854775809≤q+2 ^ 63 by omega,show q+2 ^ 63≤9223372036854775824 by omega,decide_true,decide_false,nb_t,nb_f,zae,zaj,Bool.true_and,Bool.false_and]<;>rfl
      · simp only[h0,h1,show 9223372036854775809≤q+2 ^ 63 by omega,show ¬ q+2 ^ 63≤9223372036854775824 by omega,decide_true,decide_false,nb_t,nb_f,zae,zaj,Bool.true_and,Bool.false_and];rfl
    · simp only[h0,show ¬ 9223372036854775809≤q+2 ^ 63 by omega,decide_true,decide_false,nb_t,nb_f,zae,zaj,Bool.true_and,Bool.false_and];rfl
  · show jmpN _ _ _ _ _ _ _ (k+1) _ _=_
    rw[zal,l162,ctr (by omega) (by omega),if_neg (by omega),zks];rfl
  · show jmpN _ _ _ _ _ _ _ (k+1) _ _=_
    rw[zal,z2A _ _ _ _ hi hq,zjv hi]
    cases chOk q n i
    · rfl
    · rw[zae,Bool.true_and];exact ih2
theorem zw2(q n:Nat)(hq:q<2 ^ 62):zac Tryz.prog 127 [stA q n] (bV (zcc q n)):=by
  have h:=zd0 (n:=q) (L:=fun k i=>jmpN Tryz.prog 52 ziu (zaf Tryz.prog) RJ (finY Tryz.prog [.tmp 2] [4]) (zad Tryz.f127) k [0,0,1,0,1,1] [stA q n,i64 i]) (A:=fun i=>ansY (bV (zfj q n i))) (fun k=>?_) (fun k i hi ih2=>?_) q 0 (by omega)
  · refine zaF mixed globs z27 zw0 z28 z29 zbQ ziu [4] (q+1) ((s127 _ q n).trans ?_)
    rw[zv0,zbh (show q≤4611686018427387904 by omega),zae,zae,zcm (show q<2 ^ 63 by omega)]
    have hc:=zhC (stA q n) 0
    rw[zjf hc,zbh (Nat.zero_le _),zae,zae,h]
    generalize zbf (stA q n) 0=c
    simp only[zao,b0,zbN,zaH]
    by_cases h0:1≤q
    · by_cases h1:q≤16
      · by_cases h2:97≤c<;>by_cases h3:c≤122<;>simp only[h0,h1,h2,h3,show ¬ q=0 by omega,show 9223372036854775809≤q+2 ^ 63 by omega,show q+2 ^ 63≤9223372036854775824 by omega,decide_true,decide_false,nb_t,nb_f,zae,zaj,Bool.true_and,Bool.false_and]<;>rfl
      · simp only[h0,h1,show 9223372036854775809≤q+2 ^ 63 by omega,show ¬ q+2 ^ 63≤9223372036854775824 by omega,decide_true,decide_false,nb_t,nb_f,zae,zaj,Bool.true_and,Bool.false_and];rfl
    · simp only[h0,show ¬ 9223372036854775809≤q+2 ^ 63 by omega,decide_true,decide_false,nb_t,nb_f,zae,zaj,Bool.true_and,Bool.false_and];rfl
  · show jmpN _ _ _ _ _ _ _ (k+1) _ _=_
    rw[zal,l127,zbh (show q≤4611686018427387904 by omega),zae,ctr (by omega) (by omega),if_neg (by omega),zks];rfl
  · show jmpN _ _ _ _ _ _ _ (k+1) _ _=_
    rw[zal,z2B _ _ _ _ hi hq,zjv hi]
    cases chOk q n i
    · rfl
    · rw[zae,Bool.true_and];exact ih2
end Go.Eng
