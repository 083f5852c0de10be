/- A part of the proof that the evaluator in GnC, and the driver in GnZ, answer as the model does; no conditions. -/
import Derived.Test.YtfbgcggkgelaaaaGreatDoorGnS18
import Derived.OrdersIn
import Derived.RangeFuncIn
import Derived.RangeFuncLeaves
namespace Go.Eng
open Go.RowKit
variable {P : Program} {w0 : World}

/-! ### the fence that asks nothing, in a round or not -/
def fen (ro : Option Nat) : Fence := { Fence.wide with round := ro }
theorem fen_fn {ro : Option Nat} (f : Nat) : (fen ro).fn f := trivial
theorem fen_depth {ro : Option Nat} {p : Prop} : (fen ro).depth.isSome = true → p := fun h => by cases h
theorem callsIn_fen {ro : Option Nat} {f : FuncId} {args : Array Value} {w : World} {R : Ending → World → Prop} (h : Calls P f args w R) : CallsIn (fen ro) 0 P f args w R :=
  (callsIn_wide (n := 0)).2 h
theorem calls_fen {ro : Option Nat} {n : Nat} {f : FuncId} {args : Array Value} {w : World} {R : Ending → World → Prop} (h : CallsIn (fen ro) n P f args w R) : Calls P f args w R :=
  (callsIn_wide (n := n)).1 h
/-! ### calls -/
def CallPost (P : Program) (w0 : World) (L : List CRes) (H : Hp) (φ : Ph) : Ending → World → Prop
  | .returned v, w' => ∃ c ∈ L, ∃ φ', VR φ' c.v v ∧ HR P w0 c.H φ' w' ∧ EX H φ c.H φ'
  | _, _ => False
def AllC (l : List CRes) : Prop := ∀ c ∈ l, c.ok = 1
/-- how a function value is answered: a function is called, or a round of a loop over a function is made -/
def ApplyOk (P : Program) (w0 : World) (L : List CRes) (H : Hp) (φ : Ph) (val : Value) (vals : List Value) (w : World) : Prop :=
  (∃ f first cap fn, val = .func (.func f) first cap ∧ P.funcs[f]? = some fn ∧ fn.body.isNone = false ∧ (fn.name == "runtime.NumGoroutine") = false ∧
    Calls P f (first ++ vals.toArray ++ cap) w (CallPost P w0 L H φ)) ∨
  (∃ l f tmps assign body, val = .func (.yield l) #[] #[] ∧ (Instr.yield l vals.toArray).run P w = .ok (.round l f tmps assign body) w ∧
    ∀ ro, RoundIn (fen ro) 0 P l f tmps assign body w (CallPost P w0 L H φ))
/-- what applies function values does it as the machine does -/
def RecOk (P : Program) (r : Rec) : Prop := ∀ (w0 : World) (H : Hp) (φ : Ph) (w : World) (av : AV) (val : Value) (args : List AV) (vals : List Value),
  VR φ av val → VRs φ args vals → HR P w0 H φ w → AllC (r av args H) → ApplyOk P w0 (r av args H) H φ val vals w
theorem call_wp {ro : Option Nat} {o : Oper} {cl : Call} {f : Operand} {a : Act} {w : World} {Lc : List CRes} {H : Hp} {φ : Ph} {K : Act → World → Prop} {Q : Exit → Act → World → Prop} (ho : o.op = .call cl) (hcl : cl.callee = .value f)
    (hA : ApplyOk P w0 Lc H φ (a.eval f) (cl.args.toList.map a.eval) w) (hK : ∀ v w', CallPost P w0 Lc H φ (.returned v) w' → K (a.put o.dst v) w') : o.wpIn (fen ro) 0 P a w K Q := by
  have ea : cl.args.map a.eval = (cl.args.toList.map a.eval).toArray := by rw [← Array.toList_map, Array.toArray_toList]
  refine ⟨fun _ _ => trivial, ?_⟩
  rw [Oper.semAt_eq _ _ _ (fun c hc => by rw [ho] at hc; cases hc)]
  rcases hA with ⟨g, first, cap, fn, e1, e2, e3, e4, hcalls⟩ | ⟨l, g, tmps, assign, body, e1, e2, hround⟩
  · have hrun : (execOp a.eval o).run P w = .ok (.enter g (first ++ (cl.args.toList.map a.eval).toArray ++ cap)) w := by
      simp only [execOp, ho, resolve, hcl, e1, Deferred.ofValue, Sem.run_bind, Sem.run_pure', Result.andThen_ok, invoke, callFunc, program, Sem.run, e2, e4, e3, ea]
      rfl
    rw [hrun, Oper.uponIn_enter]
    refine ⟨fen_depth, callsIn_fen (Calls.mono hcalls fun e w' he => ?_)⟩
    cases e with
    | returned v => exact hK v w' he
    | panicked ch => exact he.elim
    | outgrown => exact he.elim
  · have hrun : (execOp a.eval o).run P w = .ok (.round l g tmps assign body) w := by
      simp only [execOp, ho, resolve, hcl, e1, Deferred.ofValue, Sem.run_bind, Sem.run_pure', Result.andThen_ok, invoke, ea, Array.empty_append]
      exact e2
    rw [hrun, Oper.uponIn_round]
    refine ⟨fen_depth, RoundIn.mono (hround ro) fun e w' he => ?_⟩
    cases e with
    | returned v => exact hK v w' he
    | panicked ch => exact he.elim
    | outgrown => exact he.elim

/-! ### one operation of a region, and on -/
section one
variable {ro : Option Nat} {r : Rec} {N : Nat} {H0 H : Hp} {φ0 φ : Ph} {L : RL} {T : Fr} {a : Act} {w : World} {k : BR}
structure St (P : Program) (w0 : World) (N : Nat) (H0 : Hp) (φ0 : Ph) (T : Fr) (H : Hp) (φ : Ph) (a : Act) (w : World) : Prop where
  tr : TR P φ N T a
  hr : HR P w0 H φ w
  ex : EX H0 φ0 H φ
/-- the rest of the code leads from here to what is listed -/
def On (P : Program) (w0 : World) (r : Rec) (N : Nat) (H0 : Hp) (φ0 : Ph) (L : RL) (k : BR) (a : Act) (w : World) : Prop :=
  ∃ T H φ, St P w0 N H0 φ0 T H φ a w ∧ ∀ x ∈ k.run r T H, x ∈ L

theorem AllOk.of_sub {l l' : RL} (h : AllOk l') (hs : ∀ x ∈ l, x ∈ l') : AllOk l := fun x hx => h x (hs x hx)
theorem failR_sub {n : Nat} (hL : AllOk L) (h : ∀ x ∈ failR n, x ∈ L) : False := failR_bad (hL.of_sub h)
/-- a value is put down -/
theorem putK_on {d : Option Nat} {v : AV} {val : Value} {H' : Hp} {φ' : Ph} {w' : World} (hL : AllOk L) (ht : TR P φ' N T a) (hv : VR φ' v val) (hr : HR P w0 H' φ' w') (hex : EX H0 φ0 H' φ')
    (h : ∀ x ∈ (putK N d k).run r T H' v, x ∈ L) : On P w0 r N H0 φ0 L k (a.put d val) w' := by
  cases d with
  | none => exact ⟨T, H', φ', ⟨ht, hr, hex⟩, h⟩
  | some d =>
    simp only [putK] at h
    cases hb : nble (Nat.succ d) N
    · rw [hb] at h; exact (failR_sub hL h).elim
    · rw [hb] at h
      exact ⟨_, H', φ', ⟨ht.put (ble_true.1 hb) hv, hr, hex⟩, h⟩
theorem getsO_eq (l : List Operand) : (getsO P l).run T = l.map fun x => (getO P x).run T := by
  induction l with
  | nil => rfl
  | cons x l ih => show _ :: (getsO P l).run T = _; rw [ih]; rfl
theorem runC_ev (x : OpC) (kv : Box (Rec → Fr → Kont)) (hx : ∀ f xs, x ≠ .call f xs) : (runC P x kv).run r T H = x.ev (fun o => (getO P o).run T) H (kv.run r T) := by
  cases x with
  | call f xs => exact absurd rfl (hx f xs)
  | cN xs f => show f.run ((getsO P xs).run T) H _ = _; rw [getsO_eq]; rfl
  | _ => rfl
def NoCall (x : OpC) : Prop := ∀ f xs, x ≠ .call f xs
theorem noCall_bad {n : Nat} : NoCall (badC n) := fun _ _ h => by cases h
theorem noCall_om {α : Type} {o : Option α} {n : OpC} {f : α → OpC} (hn : NoCall n) (h : ∀ a, NoCall (f a)) : NoCall (om o n f) := by
  cases o with
  | none => exact hn
  | some a => exact h a
theorem noCall_bi {b : Bool} {x y : OpC} (hx : NoCall x) (hy : NoCall y) : NoCall (bi b x y) := by
  cases b
  · exact hy
  · exact hx
theorem noCall_0 {f : Box (Hp → Kont → RL)} : NoCall (.c0 f) := fun _ _ h => by cases h
theorem noCall_1 {x : Operand} {f : Box (AV → Hp → Kont → RL)} : NoCall (.c1 x f) := fun _ _ h => by cases h
theorem noCall_2 {x y : Operand} {f : Box (AV → AV → Hp → Kont → RL)} : NoCall (.c2 x y f) := fun _ _ h => by cases h
theorem noCall_3 {x y z : Operand} {f : Box (AV → AV → AV → Hp → Kont → RL)} : NoCall (.c3 x y z f) := fun _ _ h => by cases h
theorem noCall_N {x : List Operand} {f : Box (List AV → Hp → Kont → RL)} : NoCall (.cN x f) := fun _ _ h => by cases h
theorem noCall_builtin {b : Builtin} {args : List Operand} {tys : Array TypeId} {ty : TypeId} : NoCall (builtinOp P b args tys ty) := by
  unfold builtinOp
  split
  · unfold appendOp; repeat (first | exact noCall_bad | exact noCall_0 | exact noCall_1 | exact noCall_2 | exact noCall_3 | exact noCall_N | refine noCall_om ?_ fun _ => ?_ | refine noCall_bi ?_ ?_ | split)
  all_goals repeat (first | exact noCall_bad | exact noCall_0 | exact noCall_1 | exact noCall_2 | exact noCall_3 | exact noCall_N | refine noCall_om ?_ fun _ => ?_ | refine noCall_bi ?_ ?_ | split)
theorem opOf_call {o : Oper} (h : ¬ NoCall (opOf P o)) : ∃ cl f, o.op = .call cl ∧ cl.callee = .value f ∧ opOf P o = .call f cl.args.toList := by
  cases ho : o.op
  case call cl =>
    cases hc : cl.callee with
    | value f => exact ⟨cl, f, rfl, hc, by simp only [opOf, ho, hc]⟩
    | invoke a b => exact absurd (by simp only [opOf, ho, hc]; exact noCall_bad) h
    | builtin b => exact absurd (by simp only [opOf, ho, hc]; exact noCall_builtin) h
  case slice t x lo hi mx =>
    refine absurd ?_ h
    simp only [opOf, ho]
    unfold sliceOp
    repeat (first | exact noCall_bad | exact noCall_0 | exact noCall_1 | exact noCall_2 | exact noCall_3 | exact noCall_N | refine noCall_om ?_ fun _ => ?_ | refine noCall_bi ?_ ?_ | split)
  all_goals (refine absurd ?_ h; simp only [opOf, ho]; repeat (first | exact noCall_bad | exact noCall_0 | exact noCall_1 | exact noCall_2 | exact noCall_3 | exact noCall_N | refine noCall_om ?_ fun _ => ?_ | refine noCall_bi ?_ ?_ | split))
theorem not_defer {o : Oper} {ρA : Operand → AV} {c : Kont} (h : AllOk ((opOf P o).ev ρA H c)) : ∀ c, o.op ≠ .defer c := by
  intro c hc
  simp only [opOf, hc] at h
  exact failR_bad h
theorem opK_on {o : Oper} {Q : Exit → Act → World → Prop} (hrec : RecOk P r) (hL : AllOk L) (hs : St P w0 N H0 φ0 T H φ a w) (h : ∀ x ∈ (opK P N o k).run r T H, x ∈ L) :
    o.wpIn (fen ro) 0 P a w (On P w0 r N H0 φ0 L k) Q := by
  unfold opK at h
  by_cases hc : NoCall (opOf P o)
  · rw [runC_ev _ _ hc] at h
    obtain ⟨H', v, φ', val, w', h1, h2, h3, h4, h5⟩ := opOf_ok (P := P) (w0 := w0) (ρ := a.eval) (fun x => hs.tr.eval x) rfl hs.hr (hL.of_sub h)
    have hon : On P w0 r N H0 φ0 L k (a.put o.dst val) w' := putK_on hL (hs.tr.mono h5.keep) h3 h4 (hs.ex.trans h5) fun x hx => h x (h1 x hx)
    refine ⟨fun _ _ => trivial, ?_⟩
    rw [Oper.semAt_eq _ _ _ (not_defer (hL.of_sub h))]
    rcases h2 with h2 | ⟨h2, rfl⟩
    · rw [h2, Oper.uponIn_value]; exact hon
    · rw [h2, Oper.uponIn_skip]; exact hon
  · obtain ⟨cl, f, ho, hcl, hop⟩ := opOf_call hc
    rw [hop] at h
    have hmem : ∀ c ∈ r ((getO P f).run T) ((getsO P cl.args.toList).run T) H, ∀ x ∈ bi (nbeq c.ok 1) ((putK N o.dst k).run r T c.H c.v) (failR c.why), x ∈ L := fun c hc x hx => h x (mem_fmL.2 ⟨c, hc, hx⟩)
    have hall : AllC (r ((getO P f).run T) ((getsO P cl.args.toList).run T) H) := fun c hc => by
      cases hb : nbeq c.ok 1
      · have := hmem c hc; rw [hb] at this; exact (failR_sub hL this).elim
      · exact beq_true.1 hb
    have hargs : VRs φ ((getsO P cl.args.toList).run T) (cl.args.toList.map a.eval) := by rw [getsO_eq]; exact vrs_map (fun x => hs.tr.eval x) _
    refine call_wp ho hcl (hrec w0 H φ w _ _ _ _ (hs.tr.eval f) hargs hs.hr hall) fun v w' he => ?_
    obtain ⟨c, hc, φ', g1, g2, g3⟩ := he
    have hx := hmem c hc
    rw [beq_true.2 (hall c hc)] at hx
    exact putK_on hL (hs.tr.mono g3.keep) g1 g2 (hs.ex.trans g3) hx
theorem yielded_of {all : Array Oper} {j d : Nat} (hd : (all[j]?).bind (·.dst) = some d) (ht : TR P φ N T a) (hN : d < N) : yielded all a.tmps j = match a.tmps.getD d undef with | .bool b => some b | _ => none := by
  have hlt : d < a.tmps.size := Nat.lt_of_lt_of_le hN ht.size
  unfold yielded
  rw [hd]
  simp [hlt]
  cases a.tmps[d] <;> rfl
theorem opG_on {all : Array Oper} {o : Oper} {Q : Exit → Act → World → Prop} (hrec : RecOk P r) (hL : AllOk L) (hs : St P w0 N H0 φ0 T H φ a w) (h : ∀ x ∈ (opG P N all o k).run r T H, x ∈ L) :
    if Region.wanted o (yielded all a.tmps) then o.wpIn (fen ro) 0 P a w (On P w0 r N H0 φ0 L k) Q else On P w0 r N H0 φ0 L k (a.put o.dst undef) w := by
  unfold opG at h
  cases hg : o.guard with
  | none =>
    rw [hg] at h
    simp only [Region.wanted, hg, if_true]
    exact opK_on hrec hL hs h
  | some jw =>
    obtain ⟨j, want⟩ := jw
    rw [hg] at h
    simp only [] at h
    cases hd : (all[j]?).bind (·.dst) with
    | none => rw [hd] at h; exact (failR_sub hL h).elim
    | some d =>
      rw [hd] at h
      simp only [] at h
      cases hb : nble (Nat.succ d) N
      · rw [hb] at h; exact (failR_sub hL h).elim
      rw [hb, bi_true] at h
      have hy := yielded_of hd hs.tr (ble_true.1 hb)
      have hv := hs.tr.val d
      have hud : ∀ x ∈ (putK N o.dst k).run r T H udV, x ∈ L → True := fun _ _ _ => trivial
      simp only [Region.wanted, hg]
      simp only [] at h
      cases h8 : nbeq ((getB d).run T).tag 8
      · rw [h8, bi_false] at h
        cases h19 : nbeq ((getB d).run T).tag 19
        · rw [h19] at h; exact (failR_sub hL h).elim
        · rw [h19, bi_true] at h
          have e := hv.of_ud (beq_true.1 h19)
          rw [e] at hy
          rw [hy]
          simp only [undef]
          exact putK_on hL hs.tr (.ud _ _ _ _ _) hs.hr hs.ex h
      · rw [h8, bi_true] at h
        obtain ⟨b, e, hp, _⟩ := hv.of_bool (beq_true.1 h8)
        rw [e] at hy
        rw [hy]
        have hbw : nbeq ((getB d).run T).p (bi want 1 0) = (some b == some want) := by
          rw [hp]; cases b <;> cases want <;> rfl
        rw [hbw] at h
        cases hw : (some b == some want)
        · rw [hw] at h
          exact putK_on hL hs.tr (.ud _ _ _ _ _) hs.hr hs.ex h
        · rw [hw] at h
          exact opK_on hrec hL hs h
end one
end Go.Eng
