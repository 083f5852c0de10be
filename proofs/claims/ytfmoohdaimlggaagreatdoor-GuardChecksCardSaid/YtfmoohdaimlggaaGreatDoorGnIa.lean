/- A part of the proof that the evaluator in GnC, and the driver in GnZ, answer as the model does; no conditions. -/
import Derived.Test.YtfmoohdaimlggaaGreatDoorGnHa
import Derived.Test.YtfmoohdaimlggaaGreatDoorGnWd
import Derived.Shelf.RegionOpenPlain
import Derived.WalkKit
import Derived.Lib.Walk
import Derived.Lib.SliceRun
import Derived.Lib.JoinLaws
import Derived.Lib.AppendZeros
import Derived.Lib.Overlaps
import Derived.Lib.AppendZerosOnto
import Derived.Laws.NewBlocks
import Derived.Laws.Externs
import Derived.Laws.IdiomCopy
namespace Go.Eng
open Go.RowKit Go.Proofs Go.Lib
section
variable {P:Program}
theorem ztM(w:World){o:Oper}{a:Act}{K:Act→World→Prop}{Q:Exit→Act→World→Prop}(d s:Operand)(t t':TypeId)
    (ho:o.op=.call { callee:=.builtin .copy,args:=#[d,s],argTypes:=#[t,t'] }) (v u:Value) (hd:a.eval d=v) (hs:a.eval s=u) {v':Value} {w':World}
    (hr:(Builtin.copy_ #[t,t'] o.type #[v,u]).run P w=.ok v' w') (h:K (a.put o.dst v') w'):o.wp P a w K Q:=by
  unfold Oper.wp execOp
  simp only[ho,resolve,invoke,builtin,Sem.run_bind,Sem.run_pure,Result.andThen_ok,List.map_toArray,List.map_cons,List.map_nil,hd,hs,hr]
  exact h
theorem zio(w:World){ops:Array Oper}{rest:List Oper}{o:Oper}{a:Act}{Q:Exit→Act→World→Prop}(hgd:o.guard=none)(d s:Operand)(t t':TypeId)
    (ho:o.op=.call { callee:=.builtin .copy,args:=#[d,s],argTypes:=#[t,t'] }) (v u:Value) (hd:a.eval d=v) (hs:a.eval s=u) {v':Value} {w':World}
    (hr:(Builtin.copy_ #[t,t'] o.type #[v,u]).run P w=.ok v' w') (h:wpList P ops Q rest (a.put o.dst v') w'):wpList P ops Q (o::rest) a w :=
  wpList_plain hgd fun _ hK=>ztM w d s t t' ho v u hd hs hr (hK _ _ h)
theorem zkk{ops:Array Oper}{o:Oper}{a:Act}{w:World}{K:Act→World→Prop}{Q:Exit→Act→World→Prop}{E:Prop}
    (hg:o.guard=none) (d x:Operand) (dT sT:TypeId) (hop:o.op=Op.call { callee:=Callee.builtin Builtin.copy,args:=#[d,x],argTypes:=#[dT,sT] })
    (v u:Value) (hd:a.eval d=v) (hx:a.eval x=u) {v':Value} {w':World} (hr:(Builtin.copy_ #[dT,sT] o.type #[v,u]).run P w=.ok v' w') (hK:K (a.put o.dst v') w') :
    if Region.wanted o (yielded ops a.tmps)=true then Oper.wp P o a w K Q else E:=by
  have hw:Region.wanted o (yielded ops a.tmps)=true:=by simp[Region.wanted,hg]
  rw[if_pos hw]
  unfold Oper.wp
  simp[execOp,hop,resolve,invoke,builtin,hd,hx,hr,Result.andThen]
  exact hK
theorem zeU(w:World)(dT sT ty elem:TypeId)(sz g o dLen dCap h so sLen sCap n:Nat)(cur:Array Value)(src:List Value)(t t':TypeId)(fr:Nat × Nat)
    (hu:P.underlying dT=some (.slice elem)) (hs:(P.info? elem).map (·.size)=some sz) (hg:w.heap[g]?=some (.cells cur t)) (hh:w.heap[h]?=some (.cells src.toArray t' fr)) (hn:Nat.min sLen dLen=n)
    (hin:so+n * sz≤src.length) (hfit:o+n * sz≤cur.size) (h1:∀ v ∈ (src.drop so).take (n * sz),v.oneCell'=true) :
    (Builtin.copy_ #[dT,sT] ty #[.slice (some ⟨g,o,none⟩) dLen dCap,.slice (some ⟨h,so,none⟩) sLen sCap]).run P w =
      .ok (goInt n) (w.setRow g (cur.toList.take o++(src.drop so).take (n * sz)++cur.toList.drop (o+n * sz)).toArray):=by
  have hl:=zde (P:=P) (n:=n * sz) hh (off:=so) (by omega)
  have hlen:((src.drop so).take (n * sz)).length=n * sz:=by rw[List.length_take,List.length_drop];omega
  have hst:=run_storeCells_at P g o t ((src.drop so).take (n * sz)) 0 cur w hg (by rw[hlen];omega) h1
  rw[hlen] at hst
  cases hq:P.info? elem with
  | none=>simp[hq] at hs
  | some i =>
    have hi:i.size=sz:=by simpa [hq] using hs
    simp[Builtin.copy_,run_underlying hu,Builtin.lenOf,Builtin.firstCells,sizeOf,typeInfo,hq,hi,hn,hl,hst]
end
theorem zfw:Tryz.prog.underlying 29=some (.slice 74):=by kernel_rfl
theorem zm9:(Tryz.prog.info? 74).map (·.size)=some 2:=by kernel_rfl
theorem zmA:∀ w,(Go.sizeOf 74).run Tryz.prog w=.ok 2 w:=fun w=>by
  have h:(Tryz.prog.info? 74).map (·.size)=some 2:=by kernel_rfl
  cases hq:Tryz.prog.info? 74 with
  | none=>rw[hq] at h;cases h
  | some i=>rw[hq] at h;simp at h;simp[Go.sizeOf,typeInfo,hq,h]
theorem zpO:Tryz.prog.funcs[186]?=some Tryz.f186:=by kernel_rfl
theorem zpP:Tryz.f186.ntmps=95:=by kernel_rfl
theorem z2b:Tryz.prog.funcs[248]?=some Tryz.f248:=by kernel_rfl
theorem z2c:Extern.find Tryz.f248=some (Extern.SlicesOverlaps.overlaps #[29,29] #[4]):=by kernel_rfl
end Go.Eng
namespace Go.Eng
open Go.RowKit Go.Proofs Go.Lib
set_option linter.unusedVariables false
set_option maxHeartbeats 4000000 in
set_option maxRecDepth 100000 in
theorem zrE(b n c i vb voff vc:Nat)(ls rest vs:List Value)(w:World)(t t':TypeId)(fr:Nat × Nat)(hi:i<n)(hroom:n+1≤c)(hbig:n≤1000000)(hvb:vb ≠ b)
    (hb:w.heap[b]?=some (.cells (ls++rest).toArray t)) (hcl:n * 2≤ls.length) (hcc:(ls++rest).length=c * 2) (hv:w.heap[vb]?=some (.cells vs.toArray t' fr)) (hvl:voff+2≤vs.length) (hfr0:fr=(0,0))
    (h1c:∀ v ∈ ls,v.oneCell'=true) (h1v:∀ v ∈ (vs.drop voff).take (1 * 2),v.oneCell'=true) :
    Calls Tryz.prog 186 #[.slice (some ⟨b,0,none⟩) n c,.int .i64 i,.slice (some ⟨vb,voff,none⟩) 1 vc] w fun e w' =>
      e=.returned (.slice (some ⟨b,0,none⟩) (n+1) c)∧∃ ROW,w'=w.drew.setRow b ROW∧ROW.toList.take ((n+1) * 2)=ls.take (i * 2)++((vs.drop voff).take 2++(ls.drop (i * 2)).take ((n - i) * 2))∧ROW.size=c * 2:=by
  have t0:Tryz.prog.underlying 0=some (TypeDesc.tuple #[]):=by kernel_rfl
  have u29:=run_underlying zfw
  have z74:=zmA
  have mixed:=mixed
  have hz2:¬ ((i:Int)=(n:Int)):=by omega
  have hsb:w.shape? b=some (t,c * 2):=by simp[World.shape?,hb,← hcc]
  have hsv:w.shape? vb=some (t',vs.length):=by simp[World.shape?,hv]
  have hov:∀ lb cb,(callFunc 248 #[.slice (some ⟨vb,voff,none⟩) 1 vc,.slice (some ⟨b,(i+1) * 2,none⟩) lb cb]).run Tryz.prog w=.ok (.value (.bool false)) w:=fun lb cb=>by
    rw[run_callFunc_extern z2b (by kernel_rfl) (by kernel_rfl) (by kernel_rfl) z2c,
      Lib.run_overlaps_apart w 29 4 74 zfw 2 zmA ⟨vb,voff,none⟩ ⟨b,(i+1) * 2,none⟩ 1 vc lb cb hvb t' t vs.length (c * 2) hsv hsb (by omega) (by simp[World.frozen?,hv,hfr0]) (by simp[World.frozen?,hv,hfr0])]
    rfl
  have hw1:IntKind.i64.wrap ((i:Int)+1)=(i:Int)+1:=by rw[IntKind.wrap_i64];omega
  have hw2:IntKind.i64.wrap ((n:Int)+1)=(n:Int)+1:=by rw[IntKind.wrap_i64];omega
  obtain⟨ROW1,hR1⟩:∃ ROW1:Array Value,ROW1=((ls++rest).toArray.toList.take ((i+1) * 2)++((ls++rest).drop (i * 2)).take ((n - i) * 2)++(ls++rest).toArray.toList.drop ((i+1) * 2+(n - i) * 2)).toArray:=⟨_,rfl⟩
  obtain⟨ROW2,hR2⟩:∃ ROW2:Array Value,ROW2=(ROW1.toList.take (i * 2)++(vs.drop voff).take (1 * 2)++ROW1.toList.drop (i * 2+1 * 2)).toArray:=⟨_,rfl⟩
  have hs1:ROW1.size=c * 2:=by
    rw[hR1];simp only[List.size_toArray,List.length_append,List.length_take,List.length_drop] at hcc ⊢;omega
  have hcp1:∀ ty dc sc,(Builtin.copy_ #[29,29] ty #[.slice (some ⟨b,(i+1) * 2,none⟩) (n - i) dc,.slice (some ⟨b,i * 2,none⟩) (n+1 - i) sc]).run Tryz.prog w.drew=.ok (goInt ((n - i:Nat):Int)) (w.drew.setRow b ROW1):=fun ty dc sc=>by
    rw[hR1]
    exact zeU w.drew 29 29 ty 74 2 b ((i+1) * 2) (n - i) dc b (i * 2) (n+1 - i) sc (n - i) (ls++rest).toArray (ls++rest) t t (0,0) zfw zm9 hb hb (by simp only[Nat.min_def];split<;>omega) (by omega) (by rw[List.size_toArray];omega) (fun v hv=>by
      have:=List.mem_of_mem_take hv
      have h2:((ls++rest).drop (i * 2)).take ((n - i) * 2)=(ls.drop (i * 2)).take ((n - i) * 2):=by
        rw[List.drop_append_of_le_length (by omega),List.take_append_of_le_length (by rw[List.length_drop];omega)]
      rw[h2] at hv
      exact h1c v (List.mem_of_mem_drop (List.mem_of_mem_take hv)))
  have hb1:(w.drew.setRow b ROW1).heap[b]?=some (.cells ROW1 t):=setRow_heap w.drew b _ _ t (0,0) hb
  have hv1:(w.drew.setRow b ROW1).heap[vb]?=some (.cells vs.toArray t' fr):=by
    have:(w.drew.setRow b ROW1).heap[vb]?=w.drew.heap[vb]?:=by simp[World.setRow,Array.getElem?_modify,Ne.symm hvb]
    rw[this];exact hv
  have hcp2:∀ ty dc,(Builtin.copy_ #[29,29] ty #[.slice (some ⟨b,i * 2,none⟩) (n+1 - i) dc,.slice (some ⟨vb,voff,none⟩) 1 vc]).run Tryz.prog (w.drew.setRow b ROW1)=.ok (goInt ((1:Nat):Int)) ((w.drew.setRow b ROW1).setRow b ROW2):=fun ty dc=>by
    rw[hR2]
    exact zeU _ 29 29 ty 74 2 b (i * 2) (n+1 - i) dc vb voff 1 vc 1 ROW1 vs t t' fr zfw zm9 hb1 hv1 (by simp only[Nat.min_def];split<;>omega) (by omega) (by omega) h1v
  have k1:(0:Int)≤(i:Int)+1:=by omega
  have k2:i≤n:=by omega
  have k3:((i:Int)+1).toNat=i+1:=by omega
  have k4:¬ (c=i+1):=by omega
  have k5:(i:Int)≤(n:Int)+1:=by omega
  have k6:¬ (c=i):=by omega
  have hfin:ROW2.toList.take ((n+1) * 2)=ls.take (i * 2)++((vs.drop voff).take 2++(ls.drop (i * 2)).take ((n - i) * 2))∧ROW2.size=c * 2:=by
    have e1:ROW1.toList=ls.take ((i+1) * 2)++(ls.drop (i * 2)).take ((n - i) * 2)++(ls++rest).drop ((i+1) * 2+(n - i) * 2):=by
      rw[hR1]
      show (ls++rest).take ((i+1) * 2)++((ls++rest).drop (i * 2)).take ((n - i) * 2)++(ls++rest).drop ((i+1) * 2+(n - i) * 2)=_
      rw[List.take_append_of_le_length (by omega),List.drop_append_of_le_length (by omega),List.take_append_of_le_length (by rw[List.length_drop];omega)]
    have l1:(ls.take ((i+1) * 2)).length=i * 2+2:=by rw[List.length_take];omega
    have l2:((ls.drop (i * 2)).take ((n - i) * 2)).length=(n - i) * 2:=by rw[List.length_take,List.length_drop];omega
    have l3:((vs.drop voff).take (1 * 2)).length=2:=by rw[List.length_take,List.length_drop];omega
    have e2:ROW2.toList=ls.take (i * 2)++(vs.drop voff).take 2++((ls.drop (i * 2)).take ((n - i) * 2)++(ls++rest).drop ((i+1) * 2+(n - i) * 2)):=by
      rw[hR2,e1]
      show (ls.take ((i+1) * 2)++(ls.drop (i * 2)).take ((n - i) * 2)++(ls++rest).drop ((i+1) * 2+(n - i) * 2)).take (i * 2)++(vs.drop voff).take (1 * 2)++(ls.take ((i+1) * 2)++(ls.drop (i * 2)).take ((n - i) * 2)++(ls++rest).drop ((i+1) * 2+(n - i) * 2)).drop (i * 2+1 * 2)=_
      rw[List.append_assoc (ls.take ((i+1) * 2)),List.take_append_of_le_length (by omega),List.take_take,show min (i * 2) ((i+1) * 2)=i * 2 by omega]
      rw[show i * 2+1 * 2=(ls.take ((i+1) * 2)).length by omega,List.drop_left]
    refine⟨?_,?_⟩
    · have l4:(ls.take (i * 2)++(vs.drop voff).take 2++(ls.drop (i * 2)).take ((n - i) * 2)).length=(n+1) * 2:=by
        rw[List.length_append,List.length_append,l2,show ((vs.drop voff).take 2).length=2 from l3,List.length_take];omega
      rw[e2,← List.append_assoc,← l4,List.take_left,List.append_assoc]
    · have:=congrArg List.length e2
      rw[Array.length_toList] at this
      rw[this]
      simp only[List.length_append,List.length_take,List.length_drop] at hcc ⊢
      omega
  clear hR1 hR2
  go_enter zpO,zpP
  go_wp2_with (simp only[hov])
  go_region_law_o (refine zkk rfl _ _ 29 29 rfl _ _ (by simp[Act.eval,Act.put]) (by simp[Act.eval,Act.put]) (hcp1 _ _ _) ?_)
  go_wp2_with (at_builtin;refine zio _ rfl _ _ 29 29 rfl _ _ rfl rfl (hcp2 _ _) ?_)
  go_ret
  refine⟨rfl,ROW2,?_,hfin⟩
  first | rfl | exact setRow_setRow _ _ _ _
end Go.Eng
namespace Go.Eng
open Go.RowKit Go.Proofs Go.Lib
set_option linter.unusedVariables false
set_option maxHeartbeats 4000000 in
set_option maxRecDepth 100000 in
theorem zwp(base:Option Addr)(n c vb voff vc:Nat)(w w':World)(v':Value)(hnc:n≤c)(hbig:n≤1000000)(hnil:base=none→n=0∧c=0)
    (hrun:∀ ty,(Builtin.append_ #[29,29] ty #[.slice base n c,.slice (some ⟨vb,voff,none⟩) 1 vc]).run Tryz.prog w=.ok v' w') :
    Calls Tryz.prog 186 #[.slice base n c,.int .i64 n,.slice (some ⟨vb,voff,none⟩) 1 vc] w fun e w''=>e=.returned v'∧w''=w':=by
  have t0:Tryz.prog.underlying 0=some (TypeDesc.tuple #[]):=by kernel_rfl
  have u29:=run_underlying zfw
  have z74:=zmA
  have mixed:=mixed
  go_enter zpO,zpP
  cases base with
  | none =>
    obtain⟨h0,h0'⟩:=hnil rfl
    subst h0 h0'
    go_wp2_with (at_builtin;refine Lib.wpList_append_run _ rfl _ _ _ _ rfl _ _ rfl rfl _ _ (hrun _) ?_)
    go_ret
    exact⟨rfl,rfl⟩
  | some a =>
    obtain⟨ab,ao,asp⟩:=a
    go_wp2_with (at_builtin;refine Lib.wpList_append_run _ rfl _ _ _ _ rfl _ _ rfl rfl _ _ (hrun _) ?_)
    all_goals (go_ret;exact⟨rfl,rfl⟩)
theorem i_74:(Tryz.prog.info? 74).map (fun i=>(i.zero,i.size,i.bytes))=some (some (Value.agg #[.string ⟨#[]⟩,.int .i64 0]),2,24):=by kernel_rfl
theorem i_u3:Tryz.prog.underlying 3=some (.int .i64):=by kernel_rfl
set_option maxHeartbeats 4000000 in
set_option maxRecDepth 100000 in
theorem ztN(b n c i vb voff vc:Nat)(ls rest vs:List Value)(w:World)(t t':TypeId)(fr:Nat × Nat)(hi:i<n)(hnc:n≤c)(hroom:c<n+1)(hbig:n≤1000000)(hvb:vb ≠ b)
    (hb:w.heap[b]?=some (.cells (ls++rest).toArray t)) (hcl:n * 2≤ls.length) (hv:w.heap[vb]?=some (.cells vs.toArray t' fr)) (hvl:voff+2≤vs.length)
    (h1c:∀ v ∈ ls,v.oneCell'=true) (h1v:∀ v ∈ (vs.drop voff).take (1 * 2),v.oneCell'=true) :
    Calls Tryz.prog 186 #[.slice (some ⟨b,0,none⟩) n c,.int .i64 i,.slice (some ⟨vb,voff,none⟩) 1 vc] w fun e w' =>
      ∃ G ROW,e=.returned (.slice (some ⟨w.heap.size,0,none⟩) (n+1) G)∧n+1≤G∧w'.heap=w.heap.push (.cells ROW 74)∧w'.os=w.os∧w'.tape=w.tape∧w'.output=w.output ∧
        ROW.toList.take ((n+1) * 2)=ls.take (i * 2)++((vs.drop voff).take 2++(ls.drop (i * 2)).take ((n - i) * 2))∧ROW.size=G * 2:=by
  have t0:Tryz.prog.underlying 0=some (TypeDesc.tuple #[]):=by kernel_rfl
  have u29:=run_underlying zfw
  have z74:=zmA
  have mixed:=mixed
  obtain⟨i0,hi0,hz0,hzs,hzb⟩:=info_parts i_74
  have hz2:¬ ((i:Int)=(n:Int)):=by omega
  have hz3:(c:Int)<(n:Int)+1:=by omega
  have hcn:c=n:=by omega
  have hbw:b<w.heap.size:=by
    rcases Nat.lt_or_ge b w.heap.size with h | h
    · exact h
    · rw[Array.getElem?_eq_none h] at hb;cases hb
  have hvw:vb<w.heap.size:=by
    rcases Nat.lt_or_ge vb w.heap.size with h | h
    · exact h
    · rw[Array.getElem?_eq_none h] at hv;cases hv
  have hkk:(n:Int)+1 - (i:Int)=((n+1 - i:Nat):Int):=by omega
  have hik:i+(n+1 - i)=n+1:=by omega
  have hold:(Builtin.firstCells i0.size i (.slice (some ⟨b,0,none⟩) i c)).run Tryz.prog w.drew=.ok (ls.take (i * 2)).toArray w.drew:=by
    rw[hzs]
    simp only[Builtin.firstCells]
    rw[zbO (P:=Tryz.prog) (w:=w.drew) (show w.drew.heap[b]?=_ from hb) (by rw[List.length_append];omega),List.drop_zero,List.take_append_of_le_length (by omega)]
  have hrz:∀ ty,(Builtin.append_ #[29,3] ty #[.slice (some ⟨b,0,none⟩) i c,.int .i64 ((n:Int)+1 - (i:Int))]).run Tryz.prog w =
      .ok (.slice (some ⟨w.heap.size,0,none⟩) (n+1) (grownCap w (n+1) c 74)) (w.drew.alloc (.cells ((ls.take (i * 2)).toArray++Builtin.zeroCells (Value.agg #[.string ⟨#[]⟩,.int .i64 0]).cells (n+1 - i)++Builtin.zeroCells (Value.agg #[.string ⟨#[]⟩,.int .i64 0]).cells (grownCap w (n+1) c 74 - (n+1))) 74)):=fun ty=>by
    have h:=Lib.run_append_grow_zeros w 29 3 ty 74 i0 _ .i64 .i64 zfw i_u3 hi0 hz0 (some ⟨b,0,none⟩) i c (ls.take (i * 2)) hold (n+1 - i) (by omega) (by omega) (by omega) (by omega) (by rw[hzb];omega) (by rw[hzb,hik];exact growslice_fits hroom (by omega))
    rw[hik] at h
    rw[hkk]
    exact h
  obtain⟨G,hG⟩:∃ G,G=grownCap w (n+1) c 74:=⟨_,rfl⟩
  have hGn:n+1≤G:=by rw[hG];exact grownCap_ge w _ _ _
  have hG63:G≤9223372036854775807:=by
    have:=grownCap_le_maxLen w (n+1) c 74 (by unfold maxLen;omega)
    rw[← hG] at this
    unfold maxLen at this
    omega
  obtain⟨ROW0,hR0⟩:∃ ROW0:Array Value,ROW0=(ls.take (i * 2)).toArray++Builtin.zeroCells (Value.agg #[.string ⟨#[]⟩,.int .i64 0]).cells (n+1 - i)++Builtin.zeroCells (Value.agg #[.string ⟨#[]⟩,.int .i64 0]).cells (G - (n+1)):=⟨_,rfl⟩
  rw[← hG,← hR0] at hrz
  have hs0:ROW0.size=G * 2:=by
    rw[hR0];simp[Builtin.zeroCells,Value.cells];omega
  have hp0:ROW0.toList.take (i * 2)=ls.take (i * 2):=by
    rw[hR0,Array.toList_append,Array.toList_append,List.append_assoc]
    have l:(ls.take (i * 2)).length=i * 2:=by rw[List.length_take];omega
    show (ls.take (i * 2)++_).take (i * 2)=_
    rw[List.take_append_of_le_length (by omega),List.take_of_length_le (by omega)]
  obtain⟨W1,hW1⟩:∃ W1,W1=w.drew.alloc (.cells ROW0 74):=⟨_,rfl⟩
  rw[← hW1] at hrz
  obtain⟨N,hN⟩:∃ N,N=w.heap.size:=⟨_,rfl⟩
  rw[← hN] at hrz ⊢
  obtain⟨ROW1,hR1⟩:∃ ROW1:Array Value,ROW1=(ROW0.toList.take (i * 2)++(vs.drop voff).take (1 * 2)++ROW0.toList.drop (i * 2+1 * 2)).toArray:=⟨_,rfl⟩
  obtain⟨ROW2,hR2⟩:∃ ROW2:Array Value,ROW2=(ROW1.toList.take ((i+1) * 2)++((ls++rest).drop (i * 2)).take ((n - i) * 2)++ROW1.toList.drop ((i+1) * 2+(n - i) * 2)).toArray:=⟨_,rfl⟩
  have l3:((vs.drop voff).take (1 * 2)).length=2:=by rw[List.length_take,List.length_drop];omega
  have hle:((ls++rest).drop (i * 2)).take ((n - i) * 2)=(ls.drop (i * 2)).take ((n - i) * 2):=by
    rw[List.drop_append_of_le_length (by omega),List.take_append_of_le_length (by rw[List.length_drop];omega)]
  have l2:((ls.drop (i * 2)).take ((n - i) * 2)).length=(n - i) * 2:=by rw[List.length_take,List.length_drop];omega
  have l0:ROW0.toList.length=G * 2:=by rw[Array.length_toList,hs0]
  have hs1:ROW1.size=G * 2:=by
    rw[hR1,List.size_toArray,List.length_append,List.length_append,l3,List.length_take,List.length_drop,l0];omega
  have e1:ROW1.toList.take ((i+1) * 2)=ls.take (i * 2)++(vs.drop voff).take 2:=by
    rw[hR1,hp0]
    show (ls.take (i * 2)++(vs.drop voff).take (1 * 2)++_).take ((i+1) * 2)=_
    have l:(ls.take (i * 2)++(vs.drop voff).take (1 * 2)).length=(i+1) * 2:=by rw[List.length_append,l3,List.length_take];omega
    rw[List.take_append_of_le_length (by omega),List.take_of_length_le (by omega)]
  have hs2:ROW2.size=G * 2:=by
    have:ROW1.toList.length=G * 2:=by rw[Array.length_toList,hs1]
    rw[hR2,List.size_toArray,hle,List.length_append,List.length_append,l2,List.length_take,List.length_drop,this];omega
  have e2:ROW2.toList.take ((n+1) * 2)=ls.take (i * 2)++((vs.drop voff).take 2++(ls.drop (i * 2)).take ((n - i) * 2)):=by
    rw[hR2,hle,e1]
    show (ls.take (i * 2)++(vs.drop voff).take 2++(ls.drop (i * 2)).take ((n - i) * 2)++_).take ((n+1) * 2)=_
    have l:(ls.take (i * 2)++(vs.drop voff).take 2++(ls.drop (i * 2)).take ((n - i) * 2)).length=(n+1) * 2:=by
      rw[List.length_append,List.length_append,l2,show ((vs.drop voff).take 2).length=2 from l3,List.length_take];omega
    rw[List.take_append_of_le_length (by omega),List.take_of_length_le (by omega),List.append_assoc]
  have hg1:W1.heap[N]?=some (.cells ROW0 74):=by
    rw[hW1,hN];show (w.heap.push _)[w.heap.size]?=_;rw[Array.getElem?_push,if_pos rfl]
  have hb1:W1.heap[b]?=some (.cells (ls++rest).toArray t):=by
    rw[hW1];show (w.heap.push _)[b]?=_;rw[Array.getElem?_push,if_neg (by omega)];exact hb
  have hv1:W1.heap[vb]?=some (.cells vs.toArray t' fr):=by
    rw[hW1];show (w.heap.push _)[vb]?=_;rw[Array.getElem?_push,if_neg (by omega)];exact hv
  have hg2:(W1.setRow N ROW1).heap[N]?=some (.cells ROW1 74):=setRow_heap W1 N _ _ 74 (0,0) hg1
  have hb2:(W1.setRow N ROW1).heap[b]?=some (.cells (ls++rest).toArray t):=by
    have:(W1.setRow N ROW1).heap[b]?=W1.heap[b]?:=by simp[World.setRow,Array.getElem?_modify,show N ≠ b by omega]
    rw[this];exact hb1
  have hcpA:∀ ty dc,(Builtin.copy_ #[29,29] ty #[.slice (some ⟨N,i * 2,none⟩) (n+1 - i) dc,.slice (some ⟨vb,voff,none⟩) 1 vc]).run Tryz.prog W1=.ok (goInt ((1:Nat):Int)) (W1.setRow N ROW1):=fun ty dc=>by
    rw[hR1]
    exact zeU _ 29 29 ty 74 2 N (i * 2) (n+1 - i) dc vb voff 1 vc 1 ROW0 vs 74 t' fr zfw zm9 hg1 hv1 (by simp only[Nat.min_def];split<;>omega) (by omega) (by omega) h1v
  have hcpB:∀ ty dc sc,(Builtin.copy_ #[29,29] ty #[.slice (some ⟨N,(i+1) * 2,none⟩) (n - i) dc,.slice (some ⟨b,i * 2,none⟩) (n - i) sc]).run Tryz.prog (W1.setRow N ROW1).drew=.ok (goInt ((n - i:Nat):Int)) ((W1.setRow N ROW1).drew.setRow N ROW2):=fun ty dc sc=>by
    rw[hR2]
    exact zeU _ 29 29 ty 74 2 N ((i+1) * 2) (n - i) dc b (i * 2) (n - i) sc (n - i) ROW1 (ls++rest) 74 t (0,0) zfw zm9 hg2 hb2 (by simp only[Nat.min_def];split<;>omega) (by rw[List.length_append];omega) (by omega) (fun v hv=>by
      rw[hle] at hv
      exact h1c v (List.mem_of_mem_drop (List.mem_of_mem_take hv)))
  have hheap:((W1.setRow N ROW1).drew.setRow N ROW2).heap=w.heap.push (.cells ROW2 74):=by
    show ((W1.setRow N ROW1).setRow N ROW2).heap=_
    rw[setRow_setRow]
    apply Array.ext
    · have hsz:(W1.setRow N ROW2).heap.size=W1.heap.size:=by simp[World.setRow]
      rw[hsz,hW1]
      show (w.heap.push _).size=(w.heap.push _).size
      rw[Array.size_push,Array.size_push]
    · intro j h1 h2
      have h3:(W1.setRow N ROW2).heap[j]?=(w.heap.push (.cells ROW2 74))[j]?:=by
        by_cases hj:j=N
        · subst hj
          rw[setRow_heap W1 j _ _ 74 (0,0) hg1,hN];simp
        · have:(W1.setRow N ROW2).heap[j]?=W1.heap[j]?:=by simp[World.setRow,Array.getElem?_modify,Ne.symm hj]
          rw[this,hW1]
          show (w.heap.push _)[j]?=_
          rw[Array.getElem?_push,Array.getElem?_push,if_neg (by omega),if_neg (by omega)]
      rw[Array.getElem?_eq_getElem h1,Array.getElem?_eq_getElem h2] at h3
      exact Option.some.inj h3
  have hos:((W1.setRow N ROW1).drew.setRow N ROW2).os=w.os∧((W1.setRow N ROW1).drew.setRow N ROW2).tape=w.tape∧((W1.setRow N ROW1).drew.setRow N ROW2).output=w.output:=by
    rw[hW1];exact⟨rfl,rfl,rfl⟩
  have k1:(0:Int)≤(i:Int)+1:=by omega
  have k2:i≤n:=by omega
  have k3:((i:Int)+1).toNat=i+1:=by omega
  have k4:¬ (G=i+1):=by omega
  have k5:(i:Int)≤(n:Int)+1:=by omega
  have k6:¬ (c=i):=by omega
  have k7:¬ (G=i):=by omega
  have k8:(i:Int)≤(n:Int):=by omega
  have hw1:IntKind.i64.wrap ((i:Int)+1)=(i:Int)+1:=by rw[IntKind.wrap_i64];omega
  have hw2:IntKind.i64.wrap ((n:Int)+1)=(n:Int)+1:=by rw[IntKind.wrap_i64];omega
  have hw3:IntKind.i64.wrap ((n:Int)+1 - (i:Int))=(n:Int)+1 - (i:Int):=by rw[IntKind.wrap_i64];omega
  clear hkk hik hold hR0 hR1 hR2 hG hW1 hN hcn
  go_enter zpO,zpP
  go_wp2_with (first
    | (at_builtin;refine Lib.wpList_append_run _ rfl _ _ _ _ rfl _ _ rfl rfl _ _ (hrz _) ?_)
    | (at_builtin;refine zio _ rfl _ _ 29 29 rfl _ _ rfl rfl (hcpA _ _) ?_))
  go_region_law_o (refine zkk rfl _ _ 29 29 rfl _ _ (by simp[Act.eval,Act.put]) (by simp[Act.eval,Act.put]) (hcpB _ _ _) ?_)
  go_wp2
  go_ret
  exact⟨G,ROW2,rfl,hGn,hheap,hos.1,hos.2.1,hos.2.2,e2,hs2⟩
end Go.Eng
namespace Go.Eng
open Go.RowKit Go.Proofs
noncomputable def zdc(i:Nat)(e:AV)(l:List AV):List AV:=appL (za4 i l) (e::zbJ l i)
noncomputable def zpQ:Native:=fun args H=>(fun x i y:AV=>bi (nbeq (lenL args) 3) (bi (nbeq i.tag 3)
  (bi (bi (nbeq y.tag 25) (bi (nbeq y.p 1) (bi (nbeq y.r 1) (bi (nbeq (hget H y.q).kind 6) (nbeq (hget H y.q).t 2) false) false) false) false)
  (bi (bi (nbeq x.tag 25) (bi (nbeq (hget H x.q).kind 6) (bi (nbeq (hget H x.q).t 2) (bi (nble H.lim x.q) (bi (nble (Nat.succ x.q) H.n) (nb (nbeq x.q y.q)) false) false) false) false) false)
  (bi (nble H.n 32766)
    [⟨bi (nble i.p x.r) (bi (nble (Nat.add x.r 1) 100000) 1 0) 0,0,⟨25,1,H.n,Nat.add x.r 1,0,[]⟩,hnew (hset H x.q noB) ⟨6,2,0,zdc i.p (nthL (hget H y.q).cs 0) (za4 x.r (hget H x.q).cs)⟩⟩]
    (zaG 77)) (zaG 77)) (zaG 77)) (zaG 77)) (zaG 77)) (nthL args 0) (nthL args 1) (nthL args 2)
theorem ziq{c:Bool}{L:List CRes}{n:Nat}(h:AllC (bi c L (zaG n))):c=true:=by
  cases c
  · exact (zaI h).elim
  · rfl
theorem zir{α:Type}{c:Bool}{x y:α}(h:c=true):bi c x y=x:=by rw[h];rfl
theorem zfN(i:Nat)(e:AV)(l:List AV):zdc i e l=l.take i++e::l.drop i:=by unfold zdc;rw[zaV,zbv,zbB]
noncomputable def idK:Kont:=fun H v=>[⟨9,0,(setB 0).run noFr v,H⟩]
theorem zoD{H H':Hp}{v v':AV}(h:∀ x ∈ idK H v,x ∈ idK H' v'):H=H'∧v=v':=by
  have:=List.mem_singleton.1 (h _ (List.mem_singleton.2 rfl))
  injection this with _ _ e1 e2
  refine⟨e2,?_⟩
  have:=congrArg (fun T=>(getB 0).run T) e1
  exact this
theorem zyW:∃ zv,AppT Tryz.prog #[29,29] 74 2 24 zv:=by
  have h1:(tyB Tryz.prog 29).run=some (.slice 74):=by kernel_rfl
  have h2:(szB Tryz.prog 74).run=some 2:=by kernel_rfl
  obtain⟨i0,hi0,hz0,hzs,hzb⟩:=info_parts i_74
  exact⟨_,⟨29,rfl,h1⟩,⟨29,_,rfl,h1,fun k h=>by cases h⟩,h2,⟨i0,hi0,hz0,hzb⟩,rfl,by decide,by decide⟩
theorem HR.same{P:Program}{w0 w w':World}{H:Hp}{φ:Ph}(h:HR P w0 H φ w)(h1:w'.heap=w.heap)(h2:w'.os=w.os)(h3:w'.tape=w.tape)(h4:w'.output=w.output):HR P w0 H φ w' :=
  ⟨by rw[h1];exact h.blk,h.inj,h.n,h.lim,h.below.step h2 h3 h4 (by rw[h1];exact Nat.le_refl _) (fun k _ _=>by rw[h1]),h.gl,h.op,by rw[h1];exact h.fz,h.tl,h.fo⟩
theorem ztO:zdZ Tryz.prog 186 zpQ:=by
  intro w0 H φ w args vals ha hr hall
  unfold zpQ at hall ⊢
  simp only at hall ⊢
  have c1:=ziq hall
  rw[zir c1] at hall ⊢
  have c2:=ziq hall
  rw[zir c2] at hall ⊢
  have c3:=ziq hall
  rw[zir c3] at hall ⊢
  have c4:=ziq hall
  rw[zir c4] at hall ⊢
  have c7:=ziq hall
  rw[zir c7] at hall ⊢
  have c56:=hall _ (List.mem_singleton.2 rfl)
  simp only at c56
  have c5:nble (nthL args 1).p (nthL args 0).r=true:=by
    cases h:nble (nthL args 1).p (nthL args 0).r
    · rw[h] at c56;cases c56
    · rfl
  rw[c5,zag] at hall ⊢
  have c6:nble (Nat.add (nthL args 0).r 1) 100000=true:=by
    cases h:nble (Nat.add (nthL args 0).r 1) 100000
    · rw[c5,zag,h] at c56;cases c56
    · rfl
  rw[c6,zag] at hall ⊢
  clear c56
  have h0:=zaa.1 c1
  rw[zaz] at h0
  match args,vals,ha,h0 with
  | [x,i,y],_,.cons (v:=vx) hx (.cons (v:=vi) hi (.cons (v:=vy) hy .nil)),_ =>
  simp only[show nthL [x,i,y] 0=x from rfl,show nthL [x,i,y] 1=i from rfl,show nthL [x,i,y] 2=y from rfl] at *
  obtain⟨y1,c3⟩:=zaw.1 c3
  obtain⟨y2,c3⟩:=zaw.1 c3
  obtain⟨y3,c3⟩:=zaw.1 c3
  obtain⟨y4,y5⟩:=zaw.1 c3
  obtain⟨x1,c4⟩:=zaw.1 c4
  obtain⟨x2,c4⟩:=zaw.1 c4
  obtain⟨x3,c4⟩:=zaw.1 c4
  obtain⟨x4,c4⟩:=zaw.1 c4
  obtain⟨x5,x6⟩:=zaw.1 c4
  have y1:=zaa.1 y1;have y2:=zaa.1 y2;have y3:=zaa.1 y3;have y4':=zaa.1 y4;have y5':=zaa.1 y5
  have x1':=zaa.1 x1;have x2':=zaa.1 x2;have x3':=zaa.1 x3;have x4':=zah.1 x4;have x5':=zah.1 x5
  have x6:x.q ≠ y.q:=by
    cases h:nbeq x.q y.q
    · exact zam.1 h
    · rw[h] at x6;cases x6
  have c5:=zah.1 c5
  have c6:x.r+1≤100000:=zah.1 c6
  have c7:=zah.1 c7
  obtain⟨rfl,_,_⟩:=hi.of_int (c:=3) (by omega) (zaa.1 c2)
  have v1:valI 3 i.p=(i.p:Int):=zbs (by rw[zc5];omega)
  rw[v1]
  have hk3:kOf 3=.i64:=rfl
  rw[hk3]
  obtain⟨yb,hyb,hy1,hy2,rfl⟩:=hy.of_own y1 y2
  have hLy:isL (hget H y.q)=true:=by unfold isL;rw[y4];rfl
  obtain⟨ly,ry,ty',fr',hoy,ky1,ky2,ky3,ky4,ky5,ky6,ky7⟩:=hr.list hyb hLy
  have:=ky3 y4';subst this
  rw[y5'] at ky2 ky4 ky6
  rw[y3] at hy1 ⊢
  have hyl:1≤(hget H y.q).cs.length:=by omega
  obtain⟨e,ecs,hecs⟩:∃ e ecs,(hget H y.q).cs=e::ecs:=by
    cases h:(hget H y.q).cs with
    | nil=>rw[h] at hyl;simp at hyl
    | cons e ecs=>exact⟨e,ecs,rfl⟩
  have he0:nthL (hget H y.q).cs 0=e:=by rw[hecs];rfl
  rw[he0] at hall ⊢
  have hee:=ky2 e (by rw[hecs];simp)
  have hfe:FZs φ.fz (zba [e]) (ly.take 2):=by
    have h1:=zc1 ky2 1
    rw[hecs,List.take_succ_cons,List.take_zero] at h1
    rw[← h1,← hecs]
    exact ky1.take _
  have hll:ly.length=(hget H y.q).cs.length * 2:=by rw[← ky1.length,zbP ky2]
  have hone:∀ {cs:List AV} {l:List Value},FZs φ.fz cs l→∀ v ∈ l,v.oneCell'=true:=fun h v hv=>by
    refine zkF h.vrs (fun a ha=>?_) v hv
    obtain⟨i,hi⟩:=List.mem_iff_getElem?.1 ha
    obtain⟨v,_,hv⟩:=h.get hi
    exact hv.one
  have hend:i.p=x.r→∀ (base:Option Addr) (n c:Nat),vx=.slice base n c→n=x.r→n≤c→(base=none→n=0∧c=0) →
      Calls Tryz.prog 186 [vx,.int .i64 (i.p:Int),.slice (some ⟨yb,0,none⟩) 1 (φ.k yb)].toArray w (zbY Tryz.prog w0 [⟨1,0,⟨25,1,H.n,Nat.add x.r 1,0,[]⟩,hnew (hset H x.q noB) ⟨6,2,0,zdc i.p e (za4 x.r (hget H x.q).cs)⟩⟩] H φ):=by
    intro hir base n c hvx hn hnc hnil
    obtain⟨zv,hA⟩:=zyW
    have hLx:isL (hget H x.q)=true:=by unfold isL;rw[x2];rfl
    have ev:(zeE Tryz.prog 74 2 24).run x y H idK=zfg 2 x.p (za4 x.r (hget H x.q).cs) [e] (hset H x.q noB) idK:=by
      have e1:ziO Tryz.prog 74 2 H y=some ([e],H):=by
        unfold ziO
        rw[zam.2 (by omega:y.tag ≠ 24),zai]
        have:isNil y 1=false:=by unfold isNil;rw[zam.2 (by omega:y.tag ≠ 17)];rfl
        rw[this,zai,zaa.2 y1,zag,hLy,zag,y5,zag,y3,hecs]
        rfl
      show om (ziO Tryz.prog 74 2 H y) (zab 212) _=_
      rw[e1,zan,x1,zag]
      show bi (nbeq (hget H x.q).kind 6) _ _=_
      rw[x2,zag]
      show bi (nbeq (hget H x.q).t 2) _ _=_
      rw[x3,zag,x4,zag,x5,zag]
    have hxr:x.r=(za4 x.r (hget H x.q).cs).length:=by
      rw[zbv,List.length_take]
      by_cases hp1:x.p=1
      · obtain⟨blk,hb,g1,g2,_⟩:=hx.of_own x1' hp1
        have:=(hr.tl _ _ hb (.inl x2'))
        omega
      · have:x.r=0:=by cases hx<;>first | exact absurd rfl hp1 | rfl | (simp only at x1';omega)
        omega
    have ev2:zfg 2 x.p (za4 x.r (hget H x.q).cs) [e] (hset H x.q noB) idK=idK (hnew (hset H x.q noB) ⟨6,2,0,zdc i.p e (za4 x.r (hget H x.q).cs)⟩) ⟨25,1,H.n,Nat.add x.r 1,0,[]⟩:=by
      have l1:lenL (za4 x.r (hget H x.q).cs)=x.r:=by rw[zaz];exact hxr.symm
      unfold zfg
      rw[l1,show lenL [e]=1 from rfl,show nble 1 2=true from rfl,zag,zah.2 (show Nat.add x.r 1≤100000 from c6),zag]
      unfold newC
      rw[show (hset H x.q noB).n=H.n from rfl,zah.2 c7,zag,show nbeq 1 0=false from rfl,zai]
      have:zdc i.p e (za4 x.r (hget H x.q).cs)=appL (za4 x.r (hget H x.q).cs) [e]:=by
        rw[zfN,zaV,hir,List.take_of_length_le (by omega),List.drop_of_length_le (by omega)]
      rw[this]
    have hok:AllOk ((zeE Tryz.prog 74 2 24).run x y H idK):=by
      rw[ev,ev2];intro z hz;rw[List.mem_singleton.1 hz];simp
    obtain⟨H',v,φ',val,w',h1,h2,h3,h4,h5⟩:=zj0 (w0:=w0) (ty:=29) hA hx hy hr hok
    rw[ev,ev2] at h1
    obtain⟨e1,e2⟩:=zoD h1
    subst e1 e2
    subst hvx
    rw[y3] at h2
    have:=zwp base n c yb 0 (φ.k yb) w w' val hnc (by omega) hnil (fun ty=>h2)
    have hni:((n:Nat):Int)=(i.p:Int):=by omega
    rw[hni] at this
    refine Calls.mono this fun e w'' he=>?_
    obtain⟨rfl,rfl⟩:=he
    exact⟨_,List.mem_singleton.2 rfl,φ',h3,h4,h5⟩
  by_cases hp1:x.p=1
  · obtain⟨blk,hb,g1,g2,rfl⟩:=hx.of_own x1' hp1
    have hLx:isL (hget H x.q)=true:=by unfold isL;rw[x2];rfl
    obtain⟨l,rest,tx,fr,hox,k1,k2,k3,k4,k5,k6,k7⟩:=hr.list hb hLx
    have:=k3 x2';subst this
    rw[x3'] at k2 k4 k6
    have hl2:l.length=(hget H x.q).cs.length * 2:=by rw[← k1.length,zbP k2]
    by_cases hir:i.p=x.r
    · exact hend hir _ x.r (φ.k blk) rfl rfl (by omega) (fun h=>by cases h)
    · have hlt:i.p<x.r:=by omega
      have hvb:yb ≠ blk:=fun h=>by
        subst h
        exact x6 (hr.inj _ _ _ hb hyb (by omega) (by omega))
      have hcs:FZs φ.fz (zba (zdc i.p e (za4 x.r (hget H x.q).cs))) (l.take (i.p * 2)++((ly.drop 0).take 2++(l.drop (i.p * 2)).take ((x.r - i.p) * 2))):=by
        rw[zfN,zbv,List.take_take,show min i.p x.r=i.p by omega,List.drop_take,zdG]
        show FZs φ.fz (_++zba ([e]++_)) _
        rw[zdG]
        have h1:FZs φ.fz (zba ((hget H x.q).cs.take i.p)) (l.take (i.p * 2)):=by rw[← zc1 k2];exact k1.take _
        have h2:FZs φ.fz (zba (((hget H x.q).cs.drop i.p).take (x.r - i.p))) ((l.drop (i.p * 2)).take ((x.r - i.p) * 2)):=by
          rw[← zc1 (fun c hc=>k2 c (List.mem_of_mem_drop hc)),← zkQ k2]
          exact (k1.drop _).take _
        exact h1.append (hfe.append h2)
      have hel:∀ c ∈ zdc i.p e (za4 x.r (hget H x.q).cs),zaO c=true∧(cellsOf c).length=2:=fun c hc=>by
        rw[zfN,zbv] at hc
        rcases List.mem_append.1 hc with h | h
        · exact k2 c (List.mem_of_mem_take (List.mem_of_mem_take h))
        · rcases List.mem_cons.1 h with rfl | h
          · exact hee
          · exact k2 c (List.mem_of_mem_take (List.mem_of_mem_drop h))
      have hil:(zdc i.p e (za4 x.r (hget H x.q).cs)).length=x.r+1:=by
        rw[zfN,zbv,List.length_append,List.length_cons,List.length_take,List.length_take,List.length_drop,List.length_take];omega
      have hin:x.q<H.n:=x5'
      have hvs:((ly++ry).drop 0).take 2=(ly.drop 0).take 2:=by
        rw[List.drop_zero,List.drop_zero,List.take_append_of_le_length (by omega)]
      have h1v:∀ v ∈ ((ly++ry).drop 0).take (1 * 2),v.oneCell'=true:=fun v hv=>by
        have hv:v ∈ ((ly++ry).drop 0).take 2:=hv
        rw[hvs] at hv
        exact hone ky1 v (List.mem_of_mem_drop (List.mem_of_mem_take hv))
      have hrk:=hr.kill hin
      have hexk:=EX.kill6 hr hin x4' x2'
      by_cases hfit:x.r+1≤φ.k blk
      · have hdead:∀ b,φ b=some blk→(hget (hset H x.q noB) b).kind=0:=by
          intro b hb'
          have hbl:=(hr.blk _ _ hb').1
          rw[zaM (by omega) (by omega)]
          by_cases he:x.q=b
          · rw[if_pos he];rfl
          · rw[if_neg he]
            cases hz:decide ((hget H b).kind=0) with
            | true=>exact of_decide_eq_true hz
            | false=>exact absurd (hr.inj _ _ _ hb hb' (by omega) (of_decide_eq_false hz)) he
        have hbase:=(hr.blk _ _ hb).2.1 x4'
        have hnf:=hr.live hb x4' (by omega) (by omega)
        have hw:=zrE blk x.r (φ.k blk) i.p yb 0 (φ.k yb) l rest (ly++ry) w tx ty' (0,0) hlt hfit (by omega) hvb hox (by omega) k4 hoy (by rw[List.length_append];omega) rfl (hone k1) h1v
        refine Calls.mono hw fun e' w' he'=>?_
        obtain⟨rfl,ROW,rfl,hR,hRs⟩:=he'
        rw[hvs] at hR
        obtain⟨s1,s2⟩:(w.drew.setRow blk ROW).heap[blk]?=some (.cells ROW tx)∧∀ j,j ≠ blk→(w.drew.setRow blk ROW).heap[j]?=w.heap[j]?:=by
          refine⟨setRow_heap w.drew blk _ _ tx (0,0) hox,fun j hj=>?_⟩
          have:(w.drew.setRow blk ROW).heap[j]?=w.drew.heap[j]?:=by simp[World.setRow,Array.getElem?_modify,Ne.symm hj]
          exact this
        have hr2:=hrk.store (w':=w.drew.setRow blk ROW) hdead hnf hbase s2 ⟨_,s1⟩ (by simp[World.setRow]) rfl rfl rfl
        have hB:BRel Tryz.prog φ blk ⟨6,2,0,zdc i.p e (za4 x.r (hget H x.q).cs)⟩ (.cells ROW tx):=by
          refine⟨(fun h=>by cases h),(fun h=>by cases h),(fun h=>by cases h),fun _=>.inr (.inr ⟨.inl rfl,ROW.toList.take ((x.r+1) * 2),ROW.toList.drop ((x.r+1) * 2),tx,(0,0),?_,?_,hel,fun _=>rfl,?_,?_,Nat.zero_lt_succ 1⟩)⟩
          · rw[List.take_append_drop]
          · rw[hR];exact hcs
          · rw[List.take_append_drop,Array.length_toList];exact hRs
          · show (zdc i.p e (za4 x.r (hget H x.q).cs)).length<2 ^ 40
            rw[hil];omega
        obtain⟨a1,a2⟩:=HR.alias hr2 (by show H.n≤32766;exact c7) hdead (.inl hnf) hbase s1 hB
        refine⟨_,List.mem_singleton.2 rfl,_,?_,a1,hexk.trans a2⟩
        have hv:=VR.own (φ:=φ.name H.n blk (zdc i.p e (za4 x.r (hget H x.q).cs)).length) H.n blk (x.r+1) 0 [] (if_pos rfl) (by show x.r+1≤(if H.n=H.n then _ else _);rw[if_pos rfl,hil];exact Nat.le_refl _) (by show (if H.n=H.n then _ else _)≤φ.k blk;rw[if_pos rfl,hil];exact hfit)
        exact hv
      · have hw:=ztN blk x.r (φ.k blk) i.p yb 0 (φ.k yb) l rest (ly++ry) w tx ty' (0,0) hlt (by omega) (by omega) (by omega) hvb hox (by omega) hoy (by rw[List.length_append];omega) (hone k1) h1v
        refine Calls.mono hw fun e' w' he'=>?_
        obtain⟨G,ROW,rfl,hG,hh,ho1,ho2,ho3,hR,hRs⟩:=he'
        rw[hvs] at hR
        have hok:AllOk (newC (hset H x.q noB) ⟨6,2,0,zdc i.p e (za4 x.r (hget H x.q).cs)⟩ (fun b=>⟨25,1,b,Nat.add x.r 1,0,[]⟩) idK):=by
          unfold newC
          rw[show (hset H x.q noB).n=H.n from rfl,zah.2 c7,zag]
          intro z hz;rw[List.mem_singleton.1 hz];simp
        obtain⟨H',v,φ',val,w2,q1,q2,q3,q4,q5⟩:=Out.newL (w0:=w0) (Y:=fun v wx=>v=.slice (some ⟨w.heap.size,0,none⟩) (x.r+1) G∧wx=w.alloc (.cells ROW 74)) (o:=.cells ROW 74) (val:=.slice (some ⟨w.heap.size,0,none⟩) (x.r+1) G) G hrk (fun ψ hle hk=>by
          refine⟨(fun h=>by cases h),(fun h=>by cases h),(fun h=>by cases h),fun _=>.inr (.inr ⟨.inl rfl,ROW.toList.take ((x.r+1) * 2),ROW.toList.drop ((x.r+1) * 2),74,(0,0),?_,?_,hel,fun _=>rfl,?_,?_,Nat.zero_lt_succ 1⟩)⟩
          · rw[List.take_append_drop]
          · rw[hR];exact hcs.mono hle.fz
          · rw[List.take_append_drop,Array.length_toList,hk];exact hRs
          · show (zdc i.p e (za4 x.r (hget H x.q).cs)).length<2 ^ 40
            rw[hil];omega) (fun ψ hle hf hk htl=>by
          have htl':ψ.tl H.n=x.r+1:=htl.trans hil
          have:=VR.own (φ:=ψ) H.n w.heap.size (x.r+1) 0 [] hf (by omega) (by omega)
          rw[hk] at this
          exact this) ⟨rfl,rfl⟩ hok
        obtain⟨rfl,rfl⟩:=q2
        unfold newC at q1
        rw[show (hset H x.q noB).n=H.n from rfl,zah.2 c7,zag] at q1
        obtain⟨rfl,rfl⟩:=zoD q1
        exact⟨_,List.mem_singleton.2 rfl,φ',q3,q4.same hh ho1 ho2 ho3,hexk.trans q5⟩
  · have key:∃ base,vx=.slice base 0 0∧x.r=0:=by
      cases hx<;>first | exact absurd rfl hp1 | exact⟨_,rfl,rfl⟩ | (simp only at x1';omega)
    obtain⟨base,rfl,hr0⟩:=key
    exact hend (by omega) base 0 0 rfl hr0.symm (by omega) (fun _=>⟨rfl,rfl⟩)
end Go.Eng
