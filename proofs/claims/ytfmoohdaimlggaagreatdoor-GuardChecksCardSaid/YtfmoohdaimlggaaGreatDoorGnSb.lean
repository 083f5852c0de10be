/- A part of the proof that the evaluator in GnC, and the driver in GnZ, answer as the model does; no conditions. -/
import Derived.Test.YtfmoohdaimlggaaGreatDoorGnYb
import Derived.OrdersIn
import Derived.RangeFuncIn
import Derived.RangeFuncLeaves
namespace Go.Eng
open Go.RowKit
variable {P:Program} {w0:World} {H:Hp} {φ:Ph} {c:Kont} {w:World}
def OpC.ev(x:OpC)(ρA:Operand→AV)(H:Hp)(c:Kont):RL:=match x with
  | .c0 f=>f.run H c
  | .c1 x f=>f.run (ρA x) H c
  | .c2 x y f=>f.run (ρA x) (ρA y) H c
  | .c3 x y z f=>f.run (ρA x) (ρA y) (ρA z) H c
  | .cN xs f=>f.run (xs.map ρA) H c
  | .call _ _=>zab 0
def zbg(P:Program)(ρ:Operand→Value)(o:Oper)(w:World)(v:Value)(w':World):Prop :=
  (execOp ρ o).run P w=.ok (.value v) w' ∨ ((execOp ρ o).run P w=.ok .skip w'∧v=undef)
theorem Out.imp{Y Y':Value→World→Prop}{L:RL}(h:Out P w0 Y H φ L c)(hi:∀ v w',Y v w'→Y' v w'):Out P w0 Y' H φ L c:=by
  obtain⟨H',v,φ',val,w',h1,h2,h3⟩:=h
  exact⟨H',v,φ',val,w',h1,hi _ _ h2,h3⟩
theorem zbd{n:Nat}{ρA:Operand→AV}(h:AllOk ((badC n).ev ρA H c)):False:=zaY h
theorem zbc{α:Type}{o:Option α}{n:Nat}{f:α→OpC}{ρA:Operand→AV}(h:AllOk ((om o (badC n) f).ev ρA H c)):∃ a,o=some a:=by
  cases o with
  | none=>exact (zbd h).elim
  | some a=>exact⟨a,rfl⟩
theorem znB{b:Bool}{n:Nat}{f:OpC}{ρA:Operand→AV}(h:AllOk ((bi b f (badC n)).ev ρA H c)):b=true:=by
  cases b
  · exact (zbd h).elim
  · rfl
theorem zbl{ρ:Operand→Value}{o:Oper}{s:Sem Value}{v:Value}{w':World}(he:execOp ρ o=(do pure (.value (← s))))(h:s.run P w=.ok v w'):zbg P ρ o w v w':=by
  left
  rw[he]
  simp only[Sem.run_bind,h,Result.andThen_ok,Sem.run_pure']
theorem zly{ρ:Operand→Value}{o:Oper}{s:Sem Unit}{v:Value}{w':World}(he:execOp ρ o=(do s;pure .skip))(h:s.run P w=.ok () w')(hv:v=undef):zbg P ρ o w v w':=by
  right
  rw[he]
  simp only[Sem.run_bind,h,Result.andThen_ok,Sem.run_pure']
  exact⟨trivial,hv⟩
section ops
variable {ρA:Operand→AV} {ρ:Operand→Value} {o:Oper}
theorem zfF(hρ:∀ x,VR φ (ρA x) (ρ x))(l:List Operand):VRs φ (l.map ρA) (l.map ρ):=by
  induction l with
  | nil=>exact .nil
  | cons x l ih=>exact .cons (hρ x) ih
theorem zsJ(l:List (Nat × Operand)):(l.map fun p=>(p.1,ρ p.2))=(l.map (·.1)).zip ((l.map (·.2)).map ρ):=by
  induction l with
  | nil=>rfl
  | cons x l ih=>simp only[List.map_cons,List.zip_cons_cons,ih]
theorem zoU(hρ:∀ x,VR φ (ρA x) (ρ x))(hr:HR P w0 H φ w){x:Operand}(ho:o.op=.move x ∨ o.op=.assign x):Out P w0 (zbg P ρ o w) H φ ((OpC.c1 x zmz).ev ρA H c) c :=
  Out.same hr (hρ x) (.inl (by rcases ho with h | h<;>simp only[execOp,h]<;>rfl))
theorem z08(hρ:∀ x,VR φ (ρA x) (ρ x))(hr:HR P w0 H φ w){t:TypeId}{x:Operand}(ho:o.op=.box t x)(hok:AllOk ((opOf P o).ev ρA H c)):Out P w0 (zbg P ρ o w) H φ ((opOf P o).ev ρA H c) c:=by
  simp only[opOf,ho] at hok ⊢
  exact (zxD (P:=P) (t:=t) (hρ x) hr hok).imp fun v w' h=>zbl (s:=Instr.box t (ρ x)) (by simp only[execOp,ho]) h
theorem zxL(hρ:∀ x,VR φ (ρA x) (ρ x))(hr:HR P w0 H φ w){a b d:Operand}(ho:o.op=.pick a b d)(hok:AllOk ((opOf P o).ev ρA H c)):Out P w0 (zbg P ρ o w) H φ ((opOf P o).ev ρA H c) c:=by
  simp only[opOf,ho] at hok ⊢
  exact (zus (P:=P) (hρ a) (hρ b) (hρ d) hr hok).imp fun v w' h=>.inl (by simp only[execOp,ho];exact h)
theorem zuu(hr:HR P w0 H φ w){t:TypeId}(ho:o.op=.alloc t)(hok:AllOk ((opOf P o).ev ρA H c)):Out P w0 (zbg P ρ o w) H φ ((opOf P o).ev ρA H c) c:=by
  simp only[opOf,ho] at hok ⊢
  obtain⟨z,hz⟩:=zbc hok
  rw[hz,zan] at hok ⊢
  exact (zsX hz hr hok).imp fun v w' h=>zbl (by simp only[execOp,ho]) h
theorem zxM(hρ:∀ x,VR φ (ρA x) (ρ x))(hr:HR P w0 H φ w){t:TypeId}{a:Operand}(ho:o.op=.load t a)(hok:AllOk ((opOf P o).ev ρA H c)):Out P w0 (zbg P ρ o w) H φ ((opOf P o).ev ρA H c) c:=by
  simp only[opOf,ho] at hok ⊢
  obtain⟨d,hd⟩:=zbc hok
  rw[hd,zan] at hok ⊢
  obtain⟨sz,hs⟩:=zbc hok
  rw[hs,zan] at hok ⊢
  have fin:∀ v w',(Instr.loadAt t (ρ a)).run P w=.ok v w'→zbg P ρ o w v w':=fun v w' h=>zbl (by simp only[execOp,ho]) h
  refine Out.bi2 hok (fun _ hok=>?_) fun _ hok=>(zt0 hd hs (hρ a) hr hok).imp fin
  cases hg:zaC P t
  · rw[hg,zai] at hok;rw[zai]
    exact (zsE hd hg (hρ a) hr hok).imp fin
  · rw[hg,zag] at hok;rw[zag]
    exact (zsF hd hs hg (hρ a) hr hok).imp fin
theorem zuv(hρ:∀ x,VR φ (ρA x) (ρ x))(hr:HR P w0 H φ w){t:TypeId}{a x:Operand}(ho:o.op=.store t a x)(hok:AllOk ((opOf P o).ev ρA H c)):Out P w0 (zbg P ρ o w) H φ ((opOf P o).ev ρA H c) c:=by
  simp only[opOf,ho] at hok ⊢
  obtain⟨sz,hs⟩:=zbc hok
  rw[hs,zan] at hok ⊢
  have fin:∀ v w',((Instr.storeAt t (ρ a) (ρ x)).run P w=.ok () w'∧v=undef)→zbg P ρ o w v w':=fun v w' h=>zly (by simp only[execOp,ho]) h.1 h.2
  exact Out.bi2 hok (fun _ hok=>(zsG hs (hρ a) (hρ x) hr hok).imp fin) fun _ hok=>(zrb hs (hρ a) (hρ x) hr hok).imp fin
theorem z09(hρ:∀ x,VR φ (ρA x) (ρ x))(hr:HR P w0 H φ w){x:Operand}(ho:o.op=.nilCheck x)(hok:AllOk ((opOf P o).ev ρA H c)):Out P w0 (zbg P ρ o w) H φ ((opOf P o).ev ρA H c) c:=by
  simp only[opOf,ho] at hok ⊢
  exact Out.bi2 hok (fun _ hok=>(zxE ρ x o ho rfl (hρ x) hr hok).imp fun v w' h=>.inl h) fun _ hok=>(zuU ρ x o ho rfl (hρ x) hr hok).imp fun v w' h=>.inl h
theorem z0A(hρ:∀ x,VR φ (ρA x) (ρ x))(hr:HR P w0 H φ w){op:BinOp}{t ty:TypeId}{x y:Operand}(ho:o.op=.binOp op t x y ty)(hok:AllOk ((opOf P o).ev ρA H c)):Out P w0 (zbg P ρ o w) H φ ((opOf P o).ev ρA H c) c:=by
  simp only[opOf,ho] at hok ⊢
  exact (zxU (x:=x) (y:=y) (hρ x) (hρ y) hr hok).imp fun v w' h=>zbl (by simp only[execOp,ho]) h
theorem z3s(hρ:∀ x,VR φ (ρA x) (ρ x))(hr:HR P w0 H φ w){op:UnOp}{t:TypeId}{x:Operand}(ho:o.op=.unOp op t x)(hok:AllOk ((opOf P o).ev ρA H c)):Out P w0 (zbg P ρ o w) H φ ((opOf P o).ev ρA H c) c:=by
  simp only[opOf,ho] at hok ⊢
  exact (z0D (hρ x) hr hok).imp fun v w' h=>zbl (by simp only[execOp,ho]) h
theorem zxN(hρ:∀ x,VR φ (ρA x) (ρ x))(hr:HR P w0 H φ w){s t:TypeId}{x:Operand}(ho:o.op=.convert s t x)(hok:AllOk ((opOf P o).ev ρA H c)):Out P w0 (zbg P ρ o w) H φ ((opOf P o).ev ρA H c) c:=by
  simp only[opOf,ho] at hok ⊢
  exact (zu4 (hρ x) hr hok).imp fun v w' h=>zbl (by simp only[execOp,ho]) h
theorem zqF(hρ:∀ x,VR φ (ρA x) (ρ x))(hr:HR P w0 H φ w){x:Operand}{i:Nat}(ho:o.op=.extract x i)(hok:AllOk ((opOf P o).ev ρA H c)):Out P w0 (zbg P ρ o w) H φ ((opOf P o).ev ρA H c) c:=by
  simp only[opOf,ho] at hok ⊢
  exact (zov (P:=P) (hρ x) hr hok).imp fun v w' h=>zbl (by simp only[execOp,ho]) h
theorem zuw(hρ:∀ x,VR φ (ρA x) (ρ x))(hr:HR P w0 H φ w){x:Operand}(ho:o.op=.entry x)(hok:AllOk ((opOf P o).ev ρA H c)):Out P w0 (zbg P ρ o w) H φ ((opOf P o).ev ρA H c) c:=by
  simp only[opOf,ho] at hok ⊢
  exact (zte (P:=P) (hρ x) hr hok).imp fun v w' h=>zbl (by simp only[execOp,ho]) h
theorem zxO(hρ:∀ x,VR φ (ρA x) (ρ x))(hr:HR P w0 H φ w){x:Operand}{b:Bool}(ho:o.op=.next x b)(hok:AllOk ((opOf P o).ev ρA H c)):Out P w0 (zbg P ρ o w) H φ ((opOf P o).ev ρA H c) c:=by
  simp only[opOf,ho] at hok ⊢
  cases b
  · rw[zai] at hok ⊢
    exact (zuD (P:=P) (ty:=o.type) (hρ x) hr hok).imp fun v w' h=>zbl (by simp only[execOp,ho]) h
  · exact (zbd hok).elim
theorem zux(hρ:∀ x,VR φ (ρA x) (ρ x))(hr:HR P w0 H φ w){t:TypeId}{x:Operand}{f:Nat}(ho:o.op=.field t x f)(hok:AllOk ((opOf P o).ev ρA H c)):Out P w0 (zbg P ρ o w) H φ ((opOf P o).ev ρA H c) c:=by
  simp only[opOf,ho] at hok ⊢
  split at hok
  · rename_i fs ht
    obtain⟨fd,hf⟩:=zbc hok
    simp only[hf,zan] at hok ⊢
    obtain⟨sz,hs⟩:=zbc hok
    rw[hs,zan] at hok ⊢
    obtain⟨d,hd⟩:=zbc hok
    rw[hd,zan] at hok ⊢
    exact (zsT ht hf hd hs (hρ x) hr hok).imp fun v w' h=>zbl (by simp only[execOp,ho]) h
  · exact (zbd hok).elim
theorem znC(hρ:∀ x,VR φ (ρA x) (ρ x))(hr:HR P w0 H φ w){t:TypeId}{x:Operand}{f:Nat}(ho:o.op=.fieldAddr t x f)(hok:AllOk ((opOf P o).ev ρA H c)):Out P w0 (zbg P ρ o w) H φ ((opOf P o).ev ρA H c) c:=by
  simp only[opOf,ho] at hok ⊢
  split at hok
  · rename_i fs ht
    obtain⟨fd,hf⟩:=zbc hok
    simp only[hf,zan] at hok ⊢
    obtain⟨sz,hs⟩:=zbc hok
    rw[hs,zan] at hok ⊢
    cases h0:nbeq sz 0
    · rw[h0,zai] at hok;rw[zai]
      have fin:∀ v w',(Instr.fieldAt t (ρ x) f).run P w=.ok v w'→zbg P ρ o w v w':=fun v w' h=>zbl (by simp only[execOp,ho]) h
      exact Out.bi2 hok (fun _ hok=>(zmv ht hf hs (zam.1 h0) (hρ x) hr hok).imp fin) fun _ hok=>(zl6 ht hf hs (zam.1 h0) (hρ x) hr hok).imp fin
    · rw[h0] at hok;exact (zbd hok).elim
  · exact (zbd hok).elim
theorem znD(hρ:∀ x,VR φ (ρA x) (ρ x))(hr:HR P w0 H φ w){t:TypeId}{x i:Operand}(ho:o.op=.indexAddr t x i)(hok:AllOk ((opOf P o).ev ρA H c)):Out P w0 (zbg P ρ o w) H φ ((opOf P o).ev ρA H c) c:=by
  simp only[opOf,ho] at hok ⊢
  split at hok
  · rename_i e ht
    obtain⟨sz,hs⟩:=zbc hok
    rw[hs,zan] at hok;simp only[hs,zan]
    have fin:∀ v w',(Instr.indexAt t (ρ x) (ρ i)).run P w=.ok v w'→zbg P ρ o w v w':=fun v w' h=>zbl (by simp only[execOp,ho]) h
    exact Out.bi2 hok (fun _ hok=>(zu5 ht hs (hρ x) (hρ i) hr hok).imp fin) fun _ hok=>(zt1 ht hs (hρ x) (hρ i) hr hok).imp fin
  · rename_i n e ht
    obtain⟨sz,hs⟩:=zbc hok
    rw[hs,zan] at hok;simp only[hs,zan]
    exact (zsU ht hs (hρ x) (hρ i) hr hok).imp fun v w' h=>zbl (by simp only[execOp,ho]) h
  · exact (zbd hok).elim
theorem zuy(hρ:∀ x,VR φ (ρA x) (ρ x))(hr:HR P w0 H φ w){t:TypeId}{x i:Operand}(ho:o.op=.index t x i)(hok:AllOk ((opOf P o).ev ρA H c)):Out P w0 (zbg P ρ o w) H φ ((opOf P o).ev ρA H c) c:=by
  simp only[opOf,ho] at hok ⊢
  split at hok
  · rename_i ht
    exact (zsW ht (hρ x) (hρ i) hr hok).imp fun v w' h=>zbl (by simp only[execOp,ho]) h
  · rename_i n e ht
    obtain⟨sz,hs⟩:=zbc hok
    simp only[hs,zan] at hok ⊢
    obtain⟨d,hd⟩:=zbc hok
    simp only[hd,zan] at hok ⊢
    exact (zsV ht hd hs (hρ x) (hρ i) hr hok).imp fun v w' h=>zbl (by simp only[execOp,ho]) h
  · exact (zbd hok).elim
theorem zoV{agg:Bool}{ks:List Nat}(hks:∀ k ∈ ks,k≤9 ∨ 32≤k){u:AV}{val:Value}(ht:tyE agg ks u=true)(hv:VR φ u val):VR φ (canE agg ks u) val:=by
  unfold tyE at ht
  obtain⟨h1,ht⟩:=zaw.1 ht
  obtain⟨h2,ht⟩:=zaw.1 ht
  have h2:=zaa.1 h2
  rw[zaz,zaz] at h2
  cases agg with
  | true =>
    have h15:=zaa.1 (show nbeq u.tag 15=true from ht)
    obtain⟨l,rfl,hl,_⟩:=hv.of_agg h15
    have e:cellsOf u=u.cs:=by unfold cellsOf;rw[zaa.2 h15];rfl
    rw[e] at h1 h2
    obtain⟨f1,_,_,f4⟩:=zmn ks hks hl 0 h1
    rw[List.drop_zero,List.take_of_length_le (by rw[← hl.length];omega)] at f1
    unfold canE
    rw[e]
    exact .agg 0 0 0 0 _ l (FZs.vrs f1) f4
  | false =>
    have ht':bi (nbeq u.tag 15) false (nbeq (lenL ks) 1)=true:=ht
    cases h15:nbeq u.tag 15
    · rw[h15,zai] at ht'
      have hl:=zaa.1 ht'
      rw[zaz] at hl
      obtain⟨k,rfl⟩:=List.length_eq_one_iff.1 hl
      have e:cellsOf u=[u]:=by unfold cellsOf;rw[h15];rfl
      unfold canE
      rw[e] at h1 ⊢
      obtain⟨h3,_⟩:=zaw.1 (show bi (zax k u) (zdW [] [u] 1) false=true from h1)
      exact FZ.vr (hv.can (hks k (by simp)) h3)
    · rw[h15] at ht';cases ht'
theorem zsK{t kt e:TypeId}{n:Nat}{z:AV}{ok:Bool}{m k:AV}{vm vk:Value}(ht:(tyB P t).run=some (.map kt e))(hk:KeyT P kt n)(hz:(zeB P e).run=some z)(hm:VR φ m vm)(hvk:VR φ k vk)(hr:HR P w0 H φ w)
    (hok:AllOk ((zjO n z ok (zaC P e) (ksB P e).run).run m k H c)):Out P w0 (fun v w'=>(Instr.lookup t vm vk ok).run P w=.ok v w') H φ ((zjO n z ok (zaC P e) (ksB P e).run).run m k H c) c:=by
  unfold zjO at hok ⊢
  cases hks:(ksB P e).run with
  | none=>rw[hks] at hok;exact zjC ht hk hz hm hvk hr hok
  | some ks =>
    rw[hks,zan] at hok
    rw[zan]
    refine Out.bi2 hok (fun g0 hok=>Out.bi hok fun g1 hok=>Out.bi hok fun g2 hok=>Out.bi hok fun g3 hok=>?_) fun _ hok=>zjC ht hk hz hm hvk hr hok
    obtain⟨g4,_⟩:=zaw.1 g0
    let c0:Kont:=fun H v=>[⟨0,0,(setB 0).run noFr v,H⟩]
    have e0:(zfs n z ok).run m k H c0=c0 H (zeR ok (zcp n k (hget H m.p).cs) z):=by
      show bi (nbeq m.tag 12) (bi (nbeq (hget H m.p).kind 2) (bi (nbeq (hget H m.p).t n) (bi (keyA n k) (c0 H (zeR ok (zcp n k (hget H m.p).cs) z)) (zab 18)) (zab 18)) (zab 18)) _=_
      rw[g4,g1,g2,g3];rfl
    have hok0:AllOk ((zfs n z ok).run m k H c0):=by
      rw[e0];intro x hx;rw[List.mem_singleton.1 hx];exact fun h=>by cases h
    obtain⟨H',v,φ',val,w',h1,h2,h3,h4,h5⟩:=zjC (w0:=w0) ht hk hz hm hvk hr hok0
    have h1':=h1 _ (List.mem_singleton.2 rfl)
    rw[e0] at h1'
    have h1':=List.mem_singleton.1 h1'
    injection h1' with _ _ e1 e2
    subst e2
    have e1:v=zeR ok (zcp n k (hget H' m.p).cs) z:=by
      have:=congrArg (fun T=>(getB 0).run T) e1
      simp only[zbr] at this
      simpa using this
    refine Out.bi2 hok (fun g5 hok=>Out.bi hok fun g6 hok=>?_) fun g5 hok=>?_
    · unfold hasE at g5
      cases hf:zcp n k (hget H' m.p).cs with
      | none=>rw[hf] at g5;cases g5
      | some u =>
        have hge:getE n k (hget H' m.p).cs=u:=by unfold getE;rw[hf];rfl
        rw[hge] at g6 hok ⊢
        rw[hf] at e1
        subst e1
        have hkk:=zhw hks
        cases ok with
        | false=>exact⟨H',_,φ',val,w',fun x hx=>hx,h2,zoV hkk g6 h3,h4,h5⟩
        | true =>
          obtain⟨l,e3,hl⟩:=VR.of_tup (show VR φ' (tupV [u,bV true]) val from h3) rfl
          cases hl with
          | cons q1 q2=>cases q2 with
            | cons q3 q4=>cases q4;subst e3;exact⟨H',_,φ',_,w',fun x hx=>hx,h2,.tup 0 0 0 0 [canE (zaC P e) ks u,bV true] _ (.cons (zoV hkk g6 q1) (.cons q3 .nil)),h4,h5⟩
    · unfold hasE at g5
      cases hf:zcp n k (hget H' m.p).cs with
      | none=>rw[hf] at e1;subst e1;exact⟨H',_,φ',val,w',fun x hx=>hx,h2,h3,h4,h5⟩
      | some u=>rw[hf] at g5;cases g5
theorem zsL(hρ:∀ x,VR φ (ρA x) (ρ x))(hr:HR P w0 H φ w){t:TypeId}{m k:Operand}{ok:Bool}(ho:o.op=.lookup t m k ok)(hok:AllOk ((opOf P o).ev ρA H c)):Out P w0 (zbg P ρ o w) H φ ((opOf P o).ev ρA H c) c:=by
  simp only[opOf,ho] at hok ⊢
  split at hok
  · rename_i kt e ht
    obtain⟨n,hn⟩:=zbc hok
    simp only[hn,zan] at hok ⊢
    obtain⟨z,hz⟩:=zbc hok
    simp only[hz,zan] at hok ⊢
    exact (zsK ht (zfn hn) hz (hρ m) (hρ k) hr hok).imp fun v w' h=>zbl (by simp only[execOp,ho]) h
  · exact (zbd hok).elim
theorem ziA(hρ:∀ x,VR φ (ρA x) (ρ x))(hr:HR P w0 H φ w){t:TypeId}{m k x:Operand}(ho:o.op=.mapUpdate t m k x ∨ o.op=.insert t m k x)(hok:AllOk ((opOf P o).ev ρA H c)):Out P w0 (zbg P ρ o w) H φ ((opOf P o).ev ρA H c) c:=by
  rcases ho with ho | ho
  all_goals
    simp only[opOf,ho] at hok ⊢
    split at hok
    · rename_i kt e ht
      obtain⟨n,hn⟩:=zbc hok
      simp only[hn,zan] at hok ⊢
      exact (zqO ht (zfn hn) (hρ m) (hρ k) (hρ x) hr hok).imp fun v w' h=>zly (by simp only[execOp,ho]) h.1 h.2
    · exact (zbd hok).elim
theorem zos(hρ:∀ x,VR φ (ρA x) (ρ x))(hr:HR P w0 H φ w){t:TypeId}{m k:Operand}(ho:o.op=.mapEntry t m k)(hok:AllOk ((opOf P o).ev ρA H c)):Out P w0 (zbg P ρ o w) H φ ((opOf P o).ev ρA H c) c:=by
  simp only[opOf,ho] at hok ⊢
  split at hok
  · rename_i kt e ht
    obtain⟨n,hn⟩:=zbc hok
    simp only[hn,zan] at hok ⊢
    obtain⟨z,hz⟩:=zbc hok
    simp only[hz,zan] at hok ⊢
    exact (zqP ht (zfn hn) hz (hρ m) (hρ k) hr hok).imp fun v w' h=>zbl (by simp only[execOp,ho]) h
  · exact (zbd hok).elim
theorem zmt(hρ:∀ x,VR φ (ρA x) (ρ x))(hr:HR P w0 H φ w){t:TypeId}{m s x:Operand}(ho:o.op=.entryStore t m s x)(hok:AllOk ((opOf P o).ev ρA H c)):Out P w0 (zbg P ρ o w) H φ ((opOf P o).ev ρA H c) c:=by
  simp only[opOf,ho] at hok ⊢
  exact (ztb (t:=t) (hρ m) (hρ s) (hρ x) hr hok).imp fun v w' h=>zly (by simp only[execOp,ho]) h.1 h.2
theorem zuz(hρ:∀ x,VR φ (ρA x) (ρ x))(hr:HR P w0 H φ w){t:TypeId}{x:Operand}(ho:o.op=.range t x)(hok:AllOk ((opOf P o).ev ρA H c)):Out P w0 (zbg P ρ o w) H φ ((opOf P o).ev ρA H c) c:=by
  simp only[opOf,ho] at hok ⊢
  split at hok
  · rename_i kt e ht
    exact (ztd ht (hρ x) hr hok).imp fun v w' h=>zbl (by simp only[execOp,ho]) h
  · exact (zbd hok).elim
theorem znE(hρ:∀ x,VR φ (ρA x) (ρ x))(hr:HR P w0 H φ w){t:TypeId}{l m:Operand}(ho:o.op=.makeSlice t l m)(hok:AllOk ((opOf P o).ev ρA H c)):Out P w0 (zbg P ρ o w) H φ ((opOf P o).ev ρA H c) c:=by
  simp only[opOf,ho] at hok ⊢
  split at hok
  · rename_i e ht
    obtain⟨sz,hs⟩:=zbc hok
    simp only[hs,zan] at hok ⊢
    obtain⟨bt,hb⟩:=zbc hok
    simp only[hb,zan] at hok ⊢
    obtain⟨z,hz⟩:=zbc hok
    simp only[hz,zan] at hok ⊢
    have hc:=znB hok
    rw[hc,zag] at hok;rw[hc,zag]
    have h6:nble bt 1000000=true:=by
      cases h:nble bt 1000000
      · rw[h] at hc;cases hc
      · rfl
    rw[h6,zag] at hc
    have hl:=zaa.1 hc
    rw[zaz] at hl
    exact (zmw ht hs hb hz (zah.1 h6) hl (hρ l) (hρ m) hr hok).imp fun v w' h=>zbl (by simp only[execOp,ho]) h
  · exact (zbd hok).elim
theorem zot(hρ:∀ x,VR φ (ρA x) (ρ x))(hr:HR P w0 H φ w){fn:Fn}{first cap:Array Operand}(ho:o.op=.makeFunc fn first cap)(hok:AllOk ((opOf P o).ev ρA H c)):Out P w0 (zbg P ρ o w) H φ ((opOf P o).ev ρA H c) c:=by
  simp only[opOf,ho] at hok ⊢
  split at hok
  · rename_i f
    have h:=znH (P:=P) (w0:=w0) (c:=c) (f:=f) (first:=first.toList.map ρ) (cap:=cap.toList.map ρ) (vs:=(first.toList++cap.toList).map ρA) (by rw[← List.map_append];exact zfF hρ _) hr
    have hl:(first.toList.map ρ).length=lenL first.toList:=by rw[zaz];simp
    rw[hl] at h
    refine h.imp fun v w' h=>zbl (s:=Instr.makeFunc (.func f) (first.map ρ) (cap.map ρ)) (by simp only[execOp,ho]) ?_
    have e1:(first.toList.map ρ).toArray=first.map ρ:=by apply Array.ext';simp
    have e2:(cap.toList.map ρ).toArray=cap.map ρ:=by apply Array.ext';simp
    rwa [e1,e2] at h
  · exact (zbd hok).elim
theorem zqG(hr:HR P w0 H φ w){t:TypeId}{r:Option Operand}(ho:o.op=.makeMap t r)(hok:AllOk ((opOf P o).ev ρA H c)):Out P w0 (zbg P ρ o w) H φ ((opOf P o).ev ρA H c) c:=by
  simp only[opOf,ho] at hok ⊢
  split at hok
  · rename_i kt e ht
    obtain⟨n,hn⟩:=zbc hok
    simp only[hn,zan] at hok ⊢
    have hk:=zfn hn
    have hn':=hk.kt
    refine Out.new (o:=.map #[] 0) (val:=.map (some w.heap.size)) hr ?_ ?_ ?_ hok
    · exact⟨(fun h=>by cases h),(fun _=>⟨[],rfl,.nil,hn'⟩),(fun h=>by cases h),(fun h=>by exact no42 h)⟩
    · intro φ' _ h;exact .map _ _ _ _ _ _ h
    · refine zbl (s:=Instr.makeMap t none) (by simp only[execOp,ho];rfl) ?_
      simp only[Instr.makeMap,Sem.run_bind,zcT,Result.andThen_ok,Sem.run_pure']
  · exact (zbd hok).elim
theorem zdB(parts:Array (Nat × Operand)):(parts.map fun (i,x)=>(i,ρ x)).toList=(parts.toList.map (·.1)).zip ((parts.toList.map (·.2)).map ρ):=by
  rw[← zsJ];simp
theorem zu0(hρ:∀ x,VR φ (ρA x) (ρ x))(hr:HR P w0 H φ w){t:TypeId}{parts:Array (Nat × Operand)}(ho:o.op=.build t parts)(hok:AllOk ((opOf P o).ev ρA H c)):Out P w0 (zbg P ρ o w) H φ ((opOf P o).ev ρA H c) c:=by
  simp only[opOf,ho] at hok ⊢
  obtain⟨z,hz⟩:=zbc hok
  simp only[hz,zan] at hok ⊢
  split at hok
  · rename_i fs ht
    obtain⟨pls,hp⟩:=zbc hok
    simp only[hp,zan] at hok ⊢
    obtain⟨pl,hpl⟩:=zbc hok
    simp only[hpl,zan] at hok ⊢
    exact (zmc hz (zdB (ρ:=ρ) parts) (by simp) (.inl ⟨fs,pls,ht,hp,hpl⟩) (zfF hρ _) hr hok).imp fun v w' h=>zbl (by simp only[execOp,ho]) h
  · rename_i n e ht
    obtain⟨sz,hs⟩:=zbc hok
    simp only[hs,zan] at hok ⊢
    obtain⟨pl,hpl⟩:=zbc hok
    simp only[hpl,zan] at hok ⊢
    exact (zmc hz (zdB (ρ:=ρ) parts) (by simp) (.inr ⟨n,e,sz,ht,hs,hpl⟩) (zfF hρ _) hr hok).imp fun v w' h=>zbl (by simp only[execOp,ho]) h
  · exact (zbd hok).elim
theorem zmu(hρ:∀ x,VR φ (ρA x) (ρ x))(hr:HR P w0 H φ w){t:TypeId}{len:Nat}{parts:Array (Nat × Operand)}(ho:o.op=.buildSlice t len parts)(hok:AllOk ((opOf P o).ev ρA H c)):Out P w0 (zbg P ρ o w) H φ ((opOf P o).ev ρA H c) c:=by
  simp only[opOf,ho] at hok ⊢
  split at hok
  · rename_i e ht
    obtain⟨sz,hs⟩:=zbc hok
    simp only[hs,zan] at hok ⊢
    obtain⟨z,hz⟩:=zbc hok
    simp only[hz,zan] at hok ⊢
    obtain⟨pl,hpl⟩:=zbc hok
    simp only[hpl,zan] at hok ⊢
    have hc:=znB hok
    rw[hc,zag] at hok;rw[hc,zag]
    have h1:nble (Nat.mul len sz) 100000=true:=by
      cases h:nble (Nat.mul len sz) 100000
      · rw[h] at hc;cases hc
      · rfl
    rw[h1,zag] at hc
    have hl:=zaa.1 hc
    rw[zaz] at hl
    exact (zl2 ht hs hz (zdB (ρ:=ρ) parts) (by simp) hpl (zah.1 h1) hl (zfF hρ _) hr hok).imp fun v w' h=>zbl (by simp only[execOp,ho]) h
  · exact (zbd hok).elim
theorem z3t(hρ:∀ x,VR φ (ρA x) (ρ x))(h0:(ρA zdy).p=0)(lo:Option Operand):LoOK φ (lo.map ρ) (ρA (lo.getD zdy)):=by
  cases lo with
  | none=>exact .inl ⟨rfl,h0⟩
  | some x=>exact .inr ⟨_,rfl,hρ x⟩
theorem z3u(hρ:∀ x,VR φ (ρA x) (ρ x))(hi:Option Operand):HiOK φ (hi.map ρ) hi.isSome (ρA (hi.getD zdy)):=by
  cases hi with
  | none=>exact .inl ⟨rfl,rfl⟩
  | some x=>exact .inr ⟨_,rfl,rfl,hρ x⟩
theorem zu1(hρ:∀ x,VR φ (ρA x) (ρ x))(h0:(ρA zdy).p=0)(hr:HR P w0 H φ w){t:TypeId}{x:Operand}{lo hi mx:Option Operand}(ho:o.op=.slice t x lo hi mx)(hok:AllOk ((opOf P o).ev ρA H c)):Out P w0 (zbg P ρ o w) H φ ((opOf P o).ev ρA H c) c:=by
  simp only[opOf,ho,zgQ] at hok ⊢
  have fin:∀ v w',(Instr.sliceAt t (ρ x) (lo.map ρ) (hi.map ρ) (mx.map ρ)).run P w=.ok v w'→zbg P ρ o w v w':=fun v w' h=>zbl (by simp only[execOp,ho]) h
  have hlo:=z3t hρ h0 lo
  have hhi:=z3u hρ hi
  cases ht:(tyB P t).run with
  | none=>rw[ht] at hok;exact (zbd hok).elim
  | some d =>
    rw[ht] at hok
    cases mx with
    | none =>
      cases d<;>simp only at hok ⊢
      case slice e =>
        obtain⟨sz,hs⟩:=zbc hok
        simp only[hs,zan] at hok ⊢
        cases hz:nbeq sz 0
        · rw[hz,zai] at hok;rw[zai]
          exact Out.bi2 hok (fun _ hok=>(zxX ht hs (zam.1 hz) (hρ x) hlo hhi hr hok).imp fin) fun _ hok=>(zuW ht hs (hρ x) hlo hhi hr hok).imp fin
        · rw[hz] at hok;exact (zbd hok).elim
      case string=>exact (zqL ht (hρ x) hlo hhi hr hok).imp fin
      case array n e =>
        obtain⟨sz,hs⟩:=zbc hok
        simp only[hs,zan] at hok ⊢
        exact (zqK ht hs (hρ x) hlo hhi hr hok).imp fin
      all_goals exact (zbd hok).elim
    | some m =>
      cases d<;>simp only at hok ⊢
      case slice e =>
        obtain⟨sz,hs⟩:=zbc hok
        simp only[hs,zan] at hok ⊢
        obtain⟨h,hh⟩:=zbc hok
        subst hh
        simp only[zan] at hok ⊢
        exact Out.bi2 hok (fun _ hok=>(zu9 ht hs (hρ x) hlo (hρ h) (hρ m) hr hok).imp fin) fun _ hok=>(zt3 ht hs (hρ x) hlo (hρ h) (hρ m) hr hok).imp fin
      all_goals exact (zbd hok).elim
theorem ze4{cl:Call}{b:Builtin}(ho:o.op=.call cl)(hb:cl.callee=.builtin b){s:Sem Value}{v:Value}{w':World}
    (hs:∀ consts,builtin b cl.argTypes o.type consts (cl.args.map ρ)=(do pure (.value (← s)))) (h:s.run P w=.ok v w'):zbg P ρ o w v w':=by
  refine zbl (s:=s) ?_ h
  rw[← hs (cl.args.map fun | .const _=>true | _=>false)]
  simp only[execOp,ho,resolve,hb]
  rfl
theorem zjA{cl:Call}{x y:Operand}(h:cl.args.toList=[x,y]):cl.args.map ρ=#[ρ x,ρ y]:=by
  apply Array.ext';simp[h]
theorem zxP{cl:Call}{x:Operand}(h:cl.args.toList=[x]):cl.args.map ρ=#[ρ x]:=by
  apply Array.ext';simp[h]
theorem z0B(hρ:∀ x,VR φ (ρA x) (ρ x))(hr:HR P w0 H φ w){cl:Call}{x:Operand}(ho:o.op=.call cl)(hb:cl.callee=.builtin .len)(ha:cl.args.toList=[x])(hok:AllOk ((opOf P o).ev ρA H c)):Out P w0 (zbg P ρ o w) H φ ((opOf P o).ev ρA H c) c:=by
  simp only[opOf,ho,hb,zc3,ha] at hok ⊢
  split at hok
  · rename_i t ht
    exact (zxW (ty:=o.type) ht (hρ x) hr hok).imp fun v w' h=>ze4 ho hb (fun consts=>by rw[zxP ha];rfl) h
  · exact (zbd hok).elim
theorem zlW(hρ:∀ x,VR φ (ρA x) (ρ x))(hr:HR P w0 H φ w){cl:Call}{x y:Operand}(isMax:Bool)(ho:o.op=.call cl)(hb:cl.callee=.builtin (bi isMax .max .min))(ha:cl.args.toList=[x,y])(hok:AllOk ((opOf P o).ev ρA H c)):Out P w0 (zbg P ρ o w) H φ ((opOf P o).ev ρA H c) c:=by
  cases isMax
  all_goals
    simp only[zag,zai] at hb
    simp only[opOf,ho,hb,zc3,ha] at hok ⊢
    split at hok
    · rename_i k hk
      exact (zhP (P:=P) (tys:=cl.argTypes) (ty:=o.type) (hρ x) (hρ y) hr hok).imp fun v w' h=>ze4 ho hb (fun consts=>by rw[zjA ha];rfl) h
    · exact (zbd hok).elim
theorem zqH{cl:Call}{x y z:Operand}(h:cl.args.toList=[x,y,z]):cl.args.map ρ=#[ρ x,ρ y,ρ z]:=by
  apply Array.ext';simp[h]
theorem zxQ(hρ:∀ x,VR φ (ρA x) (ρ x))(hr:HR P w0 H φ w){cl:Call}{x y z:Operand}(ho:o.op=.call cl)(hb:cl.callee=.builtin .min)(ha:cl.args.toList=[x,y,z])(hok:AllOk ((opOf P o).ev ρA H c)):Out P w0 (zbg P ρ o w) H φ ((opOf P o).ev ρA H c) c:=by
  simp only[opOf,ho,hb,zc3,ha] at hok ⊢
  split at hok
  · rename_i k hk
    exact (zu8 (P:=P) (tys:=cl.argTypes) (ty:=o.type) (hρ x) (hρ y) (hρ z) hr hok).imp fun v w' h=>ze4 ho hb (fun consts=>by rw[zqH ha];rfl) h
  · exact (zbd hok).elim
theorem zsM(hρ:∀ x,VR φ (ρA x) (ρ x))(hr:HR P w0 H φ w){cl:Call}{x y:Operand}(ho:o.op=.call cl)(hb:cl.callee=.builtin .delete)(ha:cl.args.toList=[x,y])(hok:AllOk ((opOf P o).ev ρA H c)):Out P w0 (zbg P ρ o w) H φ ((opOf P o).ev ρA H c) c:=by
  simp only[opOf,ho,hb,zc3,ha] at hok ⊢
  split at hok
  · rename_i t ht
    split at hok
    · rename_i kt e hu
      obtain⟨n,hn⟩:=zbc hok
      simp only[hn,zan] at hok ⊢
      exact (zyc (ty:=o.type) ht hu (zfn hn) (hρ x) (hρ y) hr hok).imp fun v w' h=>ze4 ho hb (fun consts=>by rw[zjA ha];rfl) h
    · exact (zbd hok).elim
  · exact (zbd hok).elim
theorem zsN(hρ:∀ x,VR φ (ρA x) (ρ x))(hr:HR P w0 H φ w){cl:Call}{x y:Operand}(ho:o.op=.call cl)(hb:cl.callee=.builtin .append)(ha:cl.args.toList=[x,y])(hok:AllOk ((opOf P o).ev ρA H c)):Out P w0 (zbg P ρ o w) H φ ((opOf P o).ev ρA H c) c:=by
  simp only[opOf,ho,hb,zc3,ha,zj2] at hok ⊢
  cases h0:cl.argTypes[0]? with
  | none=>rw[h0] at hok;exact (zbd hok).elim
  | some t =>
    cases h1:cl.argTypes[1]? with
    | none=>rw[h0,h1] at hok;exact (zbd hok).elim
    | some ty =>
      rw[h0,h1] at hok
      simp only at hok ⊢
      cases ht:(tyB P t).run with
      | none=>rw[ht] at hok;exact (zbd hok).elim
      | some d =>
        cases hty:(tyB P ty).run with
        | none=>rw[ht,hty] at hok;cases d<;>exact (zbd hok).elim
        | some d' =>
          rw[ht,hty] at hok
          cases d<;>first | exact (zbd hok).elim | skip
          rename_i e
          have hni:∀ k,d' ≠ .int k:=by
            intro k hk;subst hk;exact zbd hok
          have hok':AllOk ((om (szB P e).run (badC 20) fun sz=>om (btB P e).run (badC 20) fun bt=>om (zeB P e).run (badC 20) fun z =>
            bi (bi (nble bt 1000000) (bi (nble 1 bt) (nbeq (lenL (cellsOf z)) sz) false) false) (.c2 x y ⟨fun a b H c=>bi (bi (nble 24 a.tag) true (nble 24 b.tag)) ((zeE P e sz bt).run a b H c) ((zgR sz (bi (isU8 P e) (nbeq sz 1) false)).run a b H c)⟩) (badC 20)).ev ρA H c):=by
            cases d'<;>first | exact hok | exact absurd rfl (hni _)
          have goal':Out P w0 (zbg P ρ o w) H φ ((om (szB P e).run (badC 20) fun sz=>om (btB P e).run (badC 20) fun bt=>om (zeB P e).run (badC 20) fun z =>
            bi (bi (nble bt 1000000) (bi (nble 1 bt) (nbeq (lenL (cellsOf z)) sz) false) false) (.c2 x y ⟨fun a b H c=>bi (bi (nble 24 a.tag) true (nble 24 b.tag)) ((zeE P e sz bt).run a b H c) ((zgR sz (bi (isU8 P e) (nbeq sz 1) false)).run a b H c)⟩) (badC 20)).ev ρA H c) c:=by
            obtain⟨sz,hs⟩:=zbc hok'
            simp only[hs,zan] at hok' ⊢
            obtain⟨bt,hbt⟩:=zbc hok'
            simp only[hbt,zan] at hok' ⊢
            obtain⟨z,hz⟩:=zbc hok'
            simp only[hz,zan] at hok' ⊢
            have hc:=znB hok'
            rw[hc,zag] at hok';rw[hc,zag]
            have k1:nble bt 1000000=true:=by
              cases h:nble bt 1000000
              · rw[h] at hc;cases hc
              · rfl
            rw[k1,zag] at hc
            have k2:nble 1 bt=true:=by
              cases h:nble 1 bt
              · rw[h] at hc;cases hc
              · rfl
            rw[k2,zag] at hc
            have k3:=zaa.1 hc
            rw[zaz] at k3
            obtain⟨i,zv,hi,hzv,hzr,hcz⟩:=zeg hz
            obtain⟨g1,_⟩:=(hzr φ).cells hcz
            obtain⟨i',hi',he'⟩:=Option.map_eq_some_iff.1 (show (P.info? e).map (·.bytes)=some bt from hbt)
            rw[hi] at hi';cases hi'
            have hA:AppT P cl.argTypes e sz bt zv:=⟨⟨t,h0,ht⟩,⟨ty,d',h1,hty,hni⟩,hs,⟨i,hi,hzv,he'⟩,by rw[g1.length] at k3;simpa using k3,zah.1 k2,zah.1 k1⟩
            have hu:bi (isU8 P e) (nbeq sz 1) false=true→sz=1:=by
              intro h
              cases h8:isU8 P e
              · rw[h8] at h;cases h
              · rw[h8,zag] at h;exact zaa.1 h
            have fin:∀ v w',(Builtin.append_ cl.argTypes o.type #[ρ x,ρ y]).run P w=.ok v w'→zbg P ρ o w v w':=fun v w' h=>ze4 ho hb (fun consts=>by rw[zjA ha];rfl) h
            exact Out.bi2 hok' (fun _ hok=>(zj0 (ty:=o.type) hA (hρ x) (hρ y) hr hok).imp fin) fun _ hok=>(zqR (ty:=o.type) hA hu (hρ x) (hρ y) hr hok).imp fin
          cases d'<;>first | exact goal' | exact absurd rfl (hni _)
end ops
end Go.Eng
namespace Go.Eng
open Go.RowKit
variable {P:Program} {w0:World} {H:Hp} {φ:Ph} {c:Kont} {w:World} {ρA:Operand→AV} {ρ:Operand→Value} {o:Oper}
theorem zoW(hρ:∀ x,VR φ (ρA x) (ρ x))(h0:(ρA zdy).p=0)(hr:HR P w0 H φ w)(hok:AllOk ((opOf P o).ev ρA H c)):Out P w0 (zbg P ρ o w) H φ ((opOf P o).ev ρA H c) c:=by
  cases ho:o.op
  case move x=>simp only[opOf,ho];exact zoU hρ hr (.inl ho)
  case assign x=>simp only[opOf,ho];exact zoU hρ hr (.inr ho)
  case pick=>exact zxL hρ hr ho hok
  case alloc=>exact zuu hr ho hok
  case box=>exact z08 hρ hr ho hok
  case build=>exact zu0 hρ hr ho hok
  case buildSlice=>exact zmu hρ hr ho hok
  case load=>exact zxM hρ hr ho hok
  case store=>exact zuv hρ hr ho hok
  case nilCheck=>exact z09 hρ hr ho hok
  case binOp=>exact z0A hρ hr ho hok
  case unOp=>exact z3s hρ hr ho hok
  case convert=>exact zxN hρ hr ho hok
  case makeFunc=>exact zot hρ hr ho hok
  case makeMap=>exact zqG hr ho hok
  case makeSlice=>exact znE hρ hr ho hok
  case slice=>exact zu1 hρ h0 hr ho hok
  case fieldAddr=>exact znC hρ hr ho hok
  case field=>exact zux hρ hr ho hok
  case indexAddr=>exact znD hρ hr ho hok
  case index=>exact zuy hρ hr ho hok
  case lookup=>exact zsL hρ hr ho hok
  case mapUpdate=>exact ziA hρ hr (.inl ho) hok
  case insert=>exact ziA hρ hr (.inr ho) hok
  case mapEntry=>exact zos hρ hr ho hok
  case entryStore=>exact zmt hρ hr ho hok
  case extract=>exact zqF hρ hr ho hok
  case range=>exact zuz hρ hr ho hok
  case next=>exact zxO hρ hr ho hok
  case entry=>exact zuw hρ hr ho hok
  case call cl =>
    cases hb:cl.callee with
    | value f=>simp only[opOf,ho,hb] at hok;exact (zaY hok).elim
    | invoke a b=>simp only[opOf,ho,hb] at hok;exact (zaY hok).elim
    | builtin b =>
      have hk:=hok
      simp only[opOf,ho,hb] at hk
      unfold zc3 at hk
      split at hk
      · exact zsN hρ hr ho hb (by assumption) hok
      · exact z0B hρ hr ho hb (by assumption) hok
      · exact zlW hρ hr false ho hb (by assumption) hok
      · exact zlW hρ hr true ho hb (by assumption) hok
      · exact zsM hρ hr ho hb (by assumption) hok
      · exact zxQ hρ hr ho hb (by assumption) hok
      · exact (zaY hk).elim
  all_goals (simp only[opOf,ho] at hok;exact (zaY hok).elim)
end Go.Eng
namespace Go.Eng
open Go.RowKit
variable {P:Program} {w0:World} {H:Hp} {φ:Ph} {c:Kont} {w:World}
def DM(φ:Ph):List AV→List Deferred→Prop
  | [],ds=>ds=[]
  | m::ms,ds=>∃ r ds',ds={ target:=.collected r,args:=#[] }::ds'∧φ m.p=some r∧DM φ ms ds'
theorem DM.mono{φ φ':Ph}(hφ:Le φ φ'){ms:List AV}:∀ {ds:List Deferred},DM φ ms ds→DM φ' ms ds:=by
  induction ms with
  | nil=>exact fun h=>h
  | cons m ms ih =>
    intro ds h
    obtain⟨r,ds',h1,h2,h3⟩:=h
    exact⟨r,ds',h1,(hφ _ _ h2).1,ih h3⟩
structure TR(P:Program)(φ:Ph)(N:Nat)(T:Fr)(a:Act):Prop where
  size:N≤a.tmps.size
  val:∀ t,VR φ ((getB t).run T) (a.tmps.getD t undef)
  defers:DM φ (zaK T) a.defers
  gl:GL P φ
theorem TR.mono{φ':Ph}{N:Nat}{T:Fr}{a:Act}(h:TR P φ N T a)(hle:Le φ φ'):TR P φ' N T a:=⟨h.size,fun t=>(h.val t).mono hle,h.defers.mono hle,h.gl.mono hle⟩
theorem TR.put{N d:Nat}{T:Fr}{a:Act}{v:AV}{val:Value}(h:TR P φ N T a)(hd:d<N)(hv:VR φ v val):TR P φ N ((setB d).run T v) (a.put (some d) val):=by
  have hs:=h.size
  refine⟨by simpa [Act.put] using h.size,?_,by rw[zb1];exact h.defers,h.gl⟩
  intro t
  rw[zbr]
  by_cases ht:d=t
  · subst ht
    have:(a.put (some d) val).tmps.getD d undef=val:=by
      have:d<a.tmps.size:=by omega
      simp[Act.put,Array.getD,this]
    rw[this]
    by_cases h5:d<511
    · rw[if_pos ⟨rfl,h5⟩];exact hv
    · rw[if_neg (fun h=>h5 h.2),zdl (by omega)];exact .unk _ _ _ _ _ _
  · rw[if_neg (fun h=>ht h.1)]
    have:(a.put (some d) val).tmps.getD t undef=a.tmps.getD t undef:=by
      have e:∀ (x:Array Value),x.getD t undef=(x[t]?).getD undef:=fun x=>by simp
      show (a.tmps.setIfInBounds d val).getD t undef=_
      rw[e,e,Array.getElem?_setIfInBounds_ne ht]
    rw[this];exact h.val t
theorem zou{g:Nat}{T T':Fr}:(getO P (.global g)).run T=(getO P (.global g)).run T':=by
  show (bi (nble (Nat.succ g) P.globals.size) (⟨fun _=>ptrV g 0⟩:Box (Fr→AV)) ⟨fun _=>unkV⟩).run T=(bi (nble (Nat.succ g) P.globals.size) (⟨fun _=>ptrV g 0⟩:Box (Fr→AV)) ⟨fun _=>unkV⟩).run T'
  cases nble (Nat.succ g) P.globals.size<;>rfl
theorem zg0{g:Nat}{T:Fr}{a:Act}(h:GL P φ):VR φ ((getO P (.global g)).run T) (a.eval (.global g)):=by
  show VR φ ((bi (nble (Nat.succ g) P.globals.size) (⟨fun _=>ptrV g 0⟩:Box (Fr→AV)) ⟨fun _=>unkV⟩).run T) _
  cases hb:nble (Nat.succ g) P.globals.size
  · exact .unk _ _ _ _ _ _
  · exact .ptr _ _ _ _ _ _ (h g (zah.1 hb))
theorem TR.eval{N:Nat}{T:Fr}{a:Act}(h:TR P φ N T a)(x:Operand):VR φ ((getO P x).run T) (a.eval x):=by
  cases x with
  | tmp t=>exact h.val t
  | const v=>exact (zjl v).1
  | global g=>exact zg0 h.gl
  | func f=>exact .fn f 0 0 0 [] [] [] .nil rfl
end Go.Eng
namespace Go.Eng
open Go.RowKit
variable {P:Program} {w0:World}
def fen(ro:Option Nat):Fence:={ Fence.wide with round:=ro }
theorem zdC{ro:Option Nat}{p:Prop}:(fen ro).depth.isSome=true→p:=fun h=>by cases h
theorem zeX{ro:Option Nat}{f:FuncId}{args:Array Value}{w:World}{R:Ending→World→Prop}(h:Calls P f args w R):CallsIn (fen ro) 0 P f args w R :=
  (callsIn_wide (n:=0)).2 h
theorem zeq{ro:Option Nat}{n:Nat}{f:FuncId}{args:Array Value}{w:World}{R:Ending→World→Prop}(h:CallsIn (fen ro) n P f args w R):Calls P f args w R :=
  (callsIn_wide (n:=n)).1 h
def zbY(P:Program)(w0:World)(L:List CRes)(H:Hp)(φ:Ph):Ending→World→Prop
  | .returned v,w'=>∃ c ∈ L,∃ φ',VR φ' c.v v∧HR P w0 c.H φ' w'∧EX H φ c.H φ'
  | _,_=>False
def AllC(l:List CRes):Prop:=∀ c ∈ l,c.ok=1
def zoX(P:Program)(w0:World)(L:List CRes)(H:Hp)(φ:Ph)(val:Value)(vals:List Value)(w:World):Prop :=
  (∃ f first cap fn,val=.func (.func f) first cap∧P.funcs[f]?=some fn∧fn.body.isNone=false∧(fn.name == "runtime.NumGoroutine")=false ∧
    Calls P f (first++vals.toArray++cap) w (zbY P w0 L H φ)) ∨
  (∃ l f tmps assign body,val=.func (.yield l) #[] #[]∧(Instr.yield l vals.toArray).run P w=.ok (.round l f tmps assign body) w ∧
    ∀ ro,RoundIn (fen ro) 0 P l f tmps assign body w (zbY P w0 L H φ)) ∨
  (∃ f v w',val=.func (.func f) #[] #[]∧(∀ u ∈ vals,∀ l,u ≠ .func (.yield l) #[] #[])∧(callFunc f vals.toArray).run P w=.ok (.value v) w'∧zbY P w0 L H φ (.returned v) w')
def zaU(P:Program)(r:Rec):Prop:=∀ (w0:World) (H:Hp) (φ:Ph) (w:World) (av:AV) (val:Value) (args:List AV) (vals:List Value),
  VR φ av val→VRs φ args vals→HR P w0 H φ w→AllC (r av args H)→zoX P w0 (r av args H) H φ val vals w
theorem zoY{ro:Option Nat}{o:Oper}{cl:Call}{f:Operand}{a:Act}{w:World}{Lc:List CRes}{H:Hp}{φ:Ph}{K:Act→World→Prop}{Q:Exit→Act→World→Prop}(ho:o.op=.call cl)(hcl:cl.callee=.value f)
    (hA:zoX P w0 Lc H φ (a.eval f) (cl.args.toList.map a.eval) w) (hK:∀ v w',zbY P w0 Lc H φ (.returned v) w'→K (a.put o.dst v) w'):o.wpIn (fen ro) 0 P a w K Q:=by
  have ea:cl.args.map a.eval=(cl.args.toList.map a.eval).toArray:=by rw[← Array.toList_map,Array.toArray_toList]
  refine⟨fun _ _=>trivial,?_⟩
  rw[Oper.semAt_eq _ _ _ (fun c hc=>by rw[ho] at hc;cases hc)]
  rcases hA with⟨g,first,cap,fn,e1,e2,e3,e4,hcalls⟩ | ⟨l,g,tmps,assign,body,e1,e2,hround⟩ | ⟨g,v,w',e1,_,e2,hpost⟩
  · have hrun:(execOp a.eval o).run P w=.ok (.enter g (first++(cl.args.toList.map a.eval).toArray++cap)) w:=by
      simp only[execOp,ho,resolve,hcl,e1,Deferred.ofValue,Sem.run_bind,Sem.run_pure',Result.andThen_ok,invoke,callFunc,program,Sem.run,e2,e4,e3,ea]
      rfl
    rw[hrun,Oper.uponIn_enter]
    refine⟨zdC,zeX (Calls.mono hcalls fun e w' he=>?_)⟩
    cases e with
    | returned v=>exact hK v w' he
    | panicked ch=>exact he.elim
    | outgrown=>exact he.elim
  · have hrun:(execOp a.eval o).run P w=.ok (.round l g tmps assign body) w:=by
      simp only[execOp,ho,resolve,hcl,e1,Deferred.ofValue,Sem.run_bind,Sem.run_pure',Result.andThen_ok,invoke,ea,Array.empty_append]
      exact e2
    rw[hrun,Oper.uponIn_round]
    refine⟨zdC,RoundIn.mono (hround ro) fun e w' he=>?_⟩
    cases e with
    | returned v=>exact hK v w' he
    | panicked ch=>exact he.elim
    | outgrown=>exact he.elim
  · have hrun:(execOp a.eval o).run P w=.ok (.value v) w':=by
      simp only[execOp,ho,resolve,hcl,e1,Deferred.ofValue,Sem.run_bind,Sem.run_pure',Result.andThen_ok,invoke,ea,Array.empty_append,Array.append_empty]
      exact e2
    rw[hrun,Oper.uponIn_value]
    exact hK v w' hpost
section one
variable {ro:Option Nat} {r:Rec} {N:Nat} {H0 H:Hp} {φ0 φ:Ph} {L:RL} {T:Fr} {a:Act} {w:World} {k:BR}
structure St(P:Program)(w0:World)(N:Nat)(H0:Hp)(φ0:Ph)(T:Fr)(H:Hp)(φ:Ph)(a:Act)(w:World):Prop where
  tr:TR P φ N T a
  hr:HR P w0 H φ w
  ex:EX H0 φ0 H φ
def On(P:Program)(w0:World)(r:Rec)(N:Nat)(H0:Hp)(φ0:Ph)(L:RL)(k:BR)(a:Act)(w:World):Prop :=
  ∃ T H φ,St P w0 N H0 φ0 T H φ a w∧∀ x ∈ k.run r T H,x ∈ L
theorem AllOk.of_sub{l l':RL}(h:AllOk l')(hs:∀ x ∈ l,x ∈ l'):AllOk l:=fun x hx=>h x (hs x hx)
theorem zaq{n:Nat}(hL:AllOk L)(h:∀ x ∈ zab n,x ∈ L):False:=zaY (hL.of_sub h)
theorem zcI{d:Option Nat}{v:AV}{val:Value}{H':Hp}{φ':Ph}{w':World}(hL:AllOk L)(ht:TR P φ' N T a)(hv:VR φ' v val)(hr:HR P w0 H' φ' w')(hex:EX H0 φ0 H' φ')
    (h:∀ x ∈ (putK N d k).run r T H' v,x ∈ L):On P w0 r N H0 φ0 L k (a.put d val) w':=by
  cases d with
  | none=>exact⟨T,H',φ',⟨ht,hr,hex⟩,h⟩
  | some d =>
    simp only[putK] at h
    cases hb:nble (Nat.succ d) N
    · rw[hb] at h;exact (zaq hL h).elim
    · rw[hb] at h
      exact⟨_,H',φ',⟨ht.put (zah.1 hb) hv,hr,hex⟩,h⟩
theorem zdD(l:List Operand):(zbT P l).run T=l.map fun x=>(getO P x).run T:=by
  induction l with
  | nil=>rfl
  | cons x l ih=>show _::(zbT P l).run T=_;rw[ih];rfl
theorem zxR(x:OpC)(kv:Box (Rec→Fr→Kont))(hx:∀ f xs,x ≠ .call f xs):(runC P x kv).run r T H=x.ev (fun o=>(getO P o).run T) H (kv.run r T):=by
  cases x with
  | call f xs=>exact absurd rfl (hx f xs)
  | cN xs f=>show f.run ((zbT P xs).run T) H _=_;rw[zdD];rfl
  | _=>rfl
def zcl(x:OpC):Prop:=∀ f xs,x ≠ .call f xs
theorem ze5{n:Nat}:zcl (badC n):=fun _ _ h=>by cases h
theorem zg1{α:Type}{o:Option α}{n:OpC}{f:α→OpC}(hn:zcl n)(h:∀ a,zcl (f a)):zcl (om o n f):=by
  cases o with
  | none=>exact hn
  | some a=>exact h a
theorem zg2{b:Bool}{x y:OpC}(hx:zcl x)(hy:zcl y):zcl (bi b x y):=by
  cases b
  · exact hy
  · exact hx
theorem zfW{f:Box (Hp→Kont→RL)}:zcl (.c0 f):=fun _ _ h=>by cases h
theorem zfX{x:Operand}{f:Box (AV→Hp→Kont→RL)}:zcl (.c1 x f):=fun _ _ h=>by cases h
theorem zfY{x y:Operand}{f:Box (AV→AV→Hp→Kont→RL)}:zcl (.c2 x y f):=fun _ _ h=>by cases h
theorem zfZ{x y z:Operand}{f:Box (AV→AV→AV→Hp→Kont→RL)}:zcl (.c3 x y z f):=fun _ _ h=>by cases h
theorem zga{x:List Operand}{f:Box (List AV→Hp→Kont→RL)}:zcl (.cN x f):=fun _ _ h=>by cases h
theorem zlz{b:Builtin}{args:List Operand}{tys:Array TypeId}{ty:TypeId}:zcl (zc3 P b args tys ty):=by
  unfold zc3
  split
  · unfold zj2;repeat (first | exact ze5 | exact zfW | exact zfX | exact zfY | exact zfZ | exact zga | refine zg1 ?_ fun _=>?_ | refine zg2 ?_ ?_ | split)
  all_goals repeat (first | exact ze5 | exact zfW | exact zfX | exact zfY | exact zfZ | exact zga | refine zg1 ?_ fun _=>?_ | refine zg2 ?_ ?_ | split)
theorem zlX{o:Oper}(h:¬ zcl (opOf P o)):∃ cl f,o.op=.call cl∧cl.callee=.value f∧opOf P o=.call f cl.args.toList:=by
  cases ho:o.op
  case call cl =>
    cases hc:cl.callee with
    | value f=>exact⟨cl,f,rfl,hc,by simp only[opOf,ho,hc]⟩
    | invoke a b=>exact absurd (by simp only[opOf,ho,hc];exact ze5) h
    | builtin b=>exact absurd (by simp only[opOf,ho,hc];exact zlz) h
  case slice t x lo hi mx =>
    refine absurd ?_ h
    simp only[opOf,ho]
    unfold zgQ
    repeat (first | exact ze5 | exact zfW | exact zfX | exact zfY | exact zfZ | exact zga | refine zg1 ?_ fun _=>?_ | refine zg2 ?_ ?_ | split)
  all_goals (refine absurd ?_ h;simp only[opOf,ho];repeat (first | exact ze5 | exact zfW | exact zfX | exact zfY | exact zfZ | exact zga | refine zg1 ?_ fun _=>?_ | refine zg2 ?_ ?_ | split))
theorem zlY{o:Oper}{ρA:Operand→AV}{c:Kont}(h:AllOk ((opOf P o).ev ρA H c)):∀ c,o.op ≠ .defer c:=by
  intro c hc
  simp only[opOf,hc] at h
  exact zaY h
theorem zcU{o:Oper}{Q:Exit→Act→World→Prop}(hrec:zaU P r)(hL:AllOk L)(hs:St P w0 N H0 φ0 T H φ a w)(h:∀ x ∈ (opK P N o k).run r T H,x ∈ L) :
    o.wpIn (fen ro) 0 P a w (On P w0 r N H0 φ0 L k) Q:=by
  unfold opK at h
  by_cases hc:zcl (opOf P o)
  · rw[zxR _ _ hc] at h
    obtain⟨H',v,φ',val,w',h1,h2,h3,h4,h5⟩:=zoW (P:=P) (w0:=w0) (ρ:=a.eval) (fun x=>hs.tr.eval x) rfl hs.hr (hL.of_sub h)
    have hon:On P w0 r N H0 φ0 L k (a.put o.dst val) w':=zcI hL (hs.tr.mono h5.keep) h3 h4 (hs.ex.trans h5) fun x hx=>h x (h1 x hx)
    refine⟨fun _ _=>trivial,?_⟩
    rw[Oper.semAt_eq _ _ _ (zlY (hL.of_sub h))]
    rcases h2 with h2 | ⟨h2,rfl⟩
    · rw[h2,Oper.uponIn_value];exact hon
    · rw[h2,Oper.uponIn_skip];exact hon
  · obtain⟨cl,f,ho,hcl,hop⟩:=zlX hc
    rw[hop] at h
    have hmem:∀ c ∈ r ((getO P f).run T) ((zbT P cl.args.toList).run T) H,∀ x ∈ bi (nbeq c.ok 1) ((putK N o.dst k).run r T c.H c.v) (zab c.why),x ∈ L:=fun c hc x hx=>h x (zdg.2 ⟨c,hc,hx⟩)
    have hall:AllC (r ((getO P f).run T) ((zbT P cl.args.toList).run T) H):=fun c hc=>by
      cases hb:nbeq c.ok 1
      · have:=hmem c hc;rw[hb] at this;exact (zaq hL this).elim
      · exact zaa.1 hb
    have hargs:VRs φ ((zbT P cl.args.toList).run T) (cl.args.toList.map a.eval):=by rw[zdD];exact zfF (fun x=>hs.tr.eval x) _
    refine zoY ho hcl (hrec w0 H φ w _ _ _ _ (hs.tr.eval f) hargs hs.hr hall) fun v w' he=>?_
    obtain⟨c,hc,φ',g1,g2,g3⟩:=he
    have hx:=hmem c hc
    rw[zaa.2 (hall c hc)] at hx
    exact zcI hL (hs.tr.mono g3.keep) g1 g2 (hs.ex.trans g3) hx
theorem zhN{all:Array Oper}{j d:Nat}(hd:(all[j]?).bind (·.dst)=some d)(ht:TR P φ N T a)(hN:d<N):yielded all a.tmps j=match a.tmps.getD d undef with | .bool b=>some b | _=>none:=by
  have hlt:d<a.tmps.size:=Nat.lt_of_lt_of_le hN ht.size
  unfold yielded
  rw[hd]
  simp[hlt]
  cases a.tmps[d]<;>rfl
theorem z0C{all:Array Oper}{o:Oper}{Q:Exit→Act→World→Prop}(hrec:zaU P r)(hL:AllOk L)(hs:St P w0 N H0 φ0 T H φ a w)(h:∀ x ∈ (opG P N all o k).run r T H,x ∈ L) :
    if Region.wanted o (yielded all a.tmps) then o.wpIn (fen ro) 0 P a w (On P w0 r N H0 φ0 L k) Q else On P w0 r N H0 φ0 L k (a.put o.dst undef) w:=by
  unfold opG at h
  cases hg:o.guard with
  | none =>
    rw[hg] at h
    simp only[Region.wanted,hg,if_true]
    exact zcU hrec hL hs h
  | some jw =>
    obtain⟨j,want⟩:=jw
    rw[hg] at h
    simp only[] at h
    cases hd:(all[j]?).bind (·.dst) with
    | none=>rw[hd] at h;exact (zaq hL h).elim
    | some d =>
      rw[hd] at h
      simp only[] at h
      cases hb:nble (Nat.succ d) N
      · rw[hb] at h;exact (zaq hL h).elim
      rw[hb,zag] at h
      have hy:=zhN hd hs.tr (zah.1 hb)
      have hv:=hs.tr.val d
      have hud:∀ x ∈ (putK N o.dst k).run r T H udV,x ∈ L→True:=fun _ _ _=>trivial
      simp only[Region.wanted,hg]
      simp only[] at h
      cases h8:nbeq ((getB d).run T).tag 8
      · rw[h8,zai] at h
        cases h19:nbeq ((getB d).run T).tag 19
        · rw[h19] at h;exact (zaq hL h).elim
        · rw[h19,zag] at h
          have e:=hv.of_ud (zaa.1 h19)
          rw[e] at hy
          rw[hy]
          simp only[undef]
          exact zcI hL hs.tr (.ud _ _ _ _ _) hs.hr hs.ex h
      · rw[h8,zag] at h
        obtain⟨b,e,hp,_⟩:=hv.of_bool (zaa.1 h8)
        rw[e] at hy
        rw[hy]
        have hbw:nbeq ((getB d).run T).p (bi want 1 0)=(some b == some want):=by
          rw[hp];cases b<;>cases want<;>rfl
        rw[hbw] at h
        cases hw:(some b == some want)
        · rw[hw] at h
          exact zcI hL hs.tr (.ud _ _ _ _ _) hs.hr hs.ex h
        · rw[hw] at h
          exact zcU hrec hL hs h
end one
end Go.Eng
