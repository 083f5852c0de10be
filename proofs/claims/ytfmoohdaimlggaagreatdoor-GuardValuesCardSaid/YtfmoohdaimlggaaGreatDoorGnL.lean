
/- A part of the proof that the evaluator in GnC, and the driver in GnZ, answer as the model does; no conditions. -/
import Derived.Test.YtfmoohdaimlggaaGreatDoorGnD5
import Derived.RangeFuncRecord
namespace Go.Eng
open Go.RowKit
variable {P : Program} {w0 : World}

/-! ### blocks of loops over functions -/
section blk
variable {H : Hp} {φ : Ph} {w : World}
theorem new_blk {B : AB} {o : Obj} (hr : HR P w0 H φ w) (hn : H.n ≤ 32766) (hB : BRel P φ w.heap.size B o) :
    ∃ φ', HR P w0 (hnew H B) φ' (w.alloc o) ∧ EX H φ (hnew H B) φ' ∧ φ' H.n = some w.heap.size := by
  have e : newC H B yldV (fun H v => [⟨v.tag, v.p, noFr, H⟩]) = [⟨14, H.n, noFr, hnew H B⟩] := by
    unfold newC; rw [ble_true.2 hn]; rfl
  have hok : AllOk (newC H B yldV (fun H v => [⟨v.tag, v.p, noFr, H⟩])) := by
    rw [e]; intro x hx; rw [List.mem_singleton.1 hx]; exact fun h => by cases h
  obtain ⟨H', v, φ', val, w', h1, h2, h3, h4, h5⟩ := Out.new (Y := fun v w' => v = .func (.yield w.heap.size) #[] #[] ∧ w' = w.alloc o ) (mk := yldV) (val := .func (.yield w.heap.size) #[] #[]) hr hB (fun φ' _ h => .yld _ _ _ _ _ _ h) ⟨rfl, rfl⟩ hok
  have h1' := h1 _ (List.mem_singleton.2 rfl)
  rw [e] at h1'
  have h1' := List.mem_singleton.1 h1'
  injection h1' with e1 e2 _ e3
  subst e3
  obtain ⟨rfl, rfl⟩ := h2
  refine ⟨φ', h4, h5, ?_⟩
  obtain ⟨x, g1, g2⟩ := h3.of_yld e1
  injection g1 with g1
  injection g1 with g1
  rw [← e2, g1]; exact g2
theorem set_blk {B : AB} {o o' : Obj} {b x : Nat} (hr : HR P w0 H φ w) (hb : φ b = some x) (hk : (hget H b).kind ≠ 0) (hl : H.lim ≤ b) (ho : w.heap[x]? = some o) (hB : BRel P φ x B o') (hk5 : (hget H b).kind = 5 → B.kind = 5) (hk7 : (hget H b).kind ≠ 7 := by omega) (hk6 : B.kind < 6 := by exact Nat.le_of_ble_eq_true rfl) :
    ∃ φ', HR P w0 (hset H b B) φ' (w.putObj x o') ∧ EX H φ (hset H b B) φ' := by
  have e : setC H b B udV (fun H v => [⟨0, 0, noFr, H⟩]) = [⟨0, 0, noFr, hset H b B⟩] := by
    unfold setC; rw [ble_true.2 hl]; rfl
  have hok : AllOk (setC H b B udV (fun H v => [⟨0, 0, noFr, H⟩])) := by
    rw [e]; intro x hx; rw [List.mem_singleton.1 hx]; exact fun h => by cases h
  obtain ⟨s1, s2, s3⟩ := set_heap (w := w) o' ho
  obtain ⟨H', v, φ', val, w', h1, h2, h3, h4, h5⟩ := Out.set (Y := fun _ w' => w' = w.putObj x o') (w' := w.putObj x o') (v := udV) (val := undef) hr hb hk hB (.ud _ _ _ _ _) rfl s1 s2 s3 rfl rfl rfl hok hk5 hk7 (fun h => by omega)
  have h1' := h1 _ (List.mem_singleton.2 rfl)
  rw [e] at h1'
  have h1' := List.mem_singleton.1 h1'
  injection h1' with _ _ _ e3
  subst e3 h2
  exact ⟨φ', h4, h5⟩
/-- the loop behind a block -/
theorem loop_at {b x : Nat} (hr : HR P w0 H φ w) (hb : φ b = some x) (hk : (hget H b).kind = 5) :
    ∃ rec f rp fn top g T, w.heap[x]? = some (.loop rec) ∧ LoopAt P φ (hget H b) rec f rp fn top g T := by
  obtain ⟨_, _, o, ho, hB⟩ := hr.blk b x hb
  rcases hB.ext (by omega) with ⟨h, _⟩ | ⟨_, rec, f, rp, fn, top, g, T, rfl, h⟩ | ⟨h, _⟩
  · omega
  rotate_left
  · omega
  · exact ⟨rec, f, rp, fn, top, g, T, ho, h⟩
theorem LoopAt.brel {B B' : AB} {rec rec' : Loop} {f : Nat} {rp : List Nat} {fn : Func} {top : Code} {g : Operand} {T : Fr} {x : Nat} (h : LoopAt P φ B rec f rp fn top g T) (h5 : B'.kind = 5) (hcs : B'.cs = B.cs)
    (h1 : rec'.params = rec.params) (h2 : rec'.assign = rec.assign) (h3 : rec'.body = rec.body) (h4 : rec'.tmps = rec.tmps) (hst : rec'.state = stOf B'.t) (hp : rec'.pending = pendOf B'.e) : BRel P φ x B' (.loop rec') where
  cells hk := by omega
  map hk := by omega
  walk hk := by omega
  ext _ := .inr <| .inl ⟨h5, rec', f, rp, fn, top, g, T, rfl, ⟨h.hfn, h.htop, by rw [h1, h2, h3]; exact h.code, hcs.trans h.cs, h.mks, by rw [h4]; exact h.size, by rw [h4]; exact h.val, hst, hp⟩⟩
end blk

/-! ### where the code stands -/
def At (P : Program) (N f : Nat) (rp : List Nat) (c : Code) : Prop := ∃ fn top, P.funcs[f]? = some fn ∧ fn.body = some top ∧ fn.ntmps = N ∧ codeAt top rp = some c
theorem At.kid {N f d : Nat} {rp : List Nat} {c c' : Code} (h : At P N f rp c) (hk : kidC d c = some c') : At P N f (d :: rp) c' := by
  obtain ⟨fn, top, h1, h2, h3, h4⟩ := h
  exact ⟨fn, top, h1, h2, h3, by show (codeAt top rp).bind (kidC d) = _; rw [h4]; exact hk⟩

section loop
variable {ro : Option Nat} {r : Rec} {N : Nat} {H0 H : Hp} {φ0 φ : Ph} {L : RL} {T : Fr} {a : Act} {w : World} {k : BR}
def QK (P : Program) (w0 : World) (r : Rec) (N : Nat) (H0 : Hp) (φ0 : Ph) (L : RL) (k : BR) : Exit → Act → World → Prop
  | .normal, a, w => On P w0 r N H0 φ0 L k a w
  | .exit i, a, w => ∃ x ∈ L, x.tag = 1 ∧ x.i = i ∧ ∃ φ, St P w0 N H0 φ0 x.T x.H φ a w
  | .ret, a, w => ∃ x ∈ L, x.tag = 2 ∧ ∃ φ, St P w0 N H0 φ0 x.T x.H φ a w
  | _, _, _ => False
/-- in a round: the loop's block is there -/
def InRo (ro : Option Nat) (H0 : Hp) (φ0 : Ph) : Prop := ∀ l, ro = some l → ∃ b, φ0 b = some l ∧ b < H0.n ∧ b < 32768 ∧ (hget H0 b).kind = 5
theorem endL_on {b l : Nat} (hL : AllOk L) (hs : St P w0 N H0 φ0 T H φ a w) (hb : φ b = some l) (h : ∀ x ∈ endL k r T b H, x ∈ L) :
    ∃ jump w₄, (Instr.endLoop l).run P w = .ok jump w₄ ∧ (match jump with | none => QK P w0 r N H0 φ0 L k .normal a w₄ | some c => c.wpIn (fen ro) 0 P (QK P w0 r N H0 φ0 L k) a w₄) := by
  have h' : ∀ x ∈ bi (nbeq (hget H b).kind 5) (bi (nbeq (hget H b).t 1) (failR 61)
    (setC H b ⟨5, 3, (hget H b).e, (hget H b).cs⟩ udV fun H' _ => bi (nbeq (hget H b).e 0) (k.run r T H') (bi (nbeq (hget H b).e 1) [⟨2, 0, T, H'⟩] [⟨1, Nat.sub (hget H b).e 2, T, H'⟩]))) (failR 61), x ∈ L := h
  cases h5 : nbeq (hget H b).kind 5
  · rw [h5] at h'; exact (failR_sub hL h').elim
  rw [h5, bi_true] at h'
  have h1 : nbeq (hget H b).t 1 = false := by
    cases h1 : nbeq (hget H b).t 1
    · rfl
    · rw [h1] at h'; exact (failR_sub hL h').elim
  rw [h1, bi_false] at h'
  unfold setC at h'
  cases hl : nble H.lim b
  · rw [hl] at h'; exact (failR_sub hL h').elim
  rw [hl, bi_true] at h'
  have h5 := beq_true.1 h5
  have h1 := beq_false.1 h1
  obtain ⟨rec, f, rp, fn, top, g, T', ho, hA⟩ := loop_at hs.hr hb h5
  have hbusy : rec.state ≠ .busy := by
    rw [hA.st]
    generalize (hget H b).t = t at h1
    match t with
    | 0 => intro h; cases h
    | 1 => exact absurd rfl h1
    | 2 => intro h; cases h
    | n + 3 => intro h; cases h
  obtain ⟨φ', hr', hex⟩ := set_blk (B := ⟨5, 3, (hget H b).e, (hget H b).cs⟩) (o' := .loop { rec with state := .exhausted }) hs.hr hb (by omega) (ble_true.1 hl) ho (hA.brel rfl rfl rfl rfl rfl rfl rfl hA.pend) fun _ => rfl
  have hs' : St P w0 N H0 φ0 T (hset H b ⟨5, 3, (hget H b).e, (hget H b).cs⟩) φ' a (w.putObj l (.loop { rec with state := .exhausted })) := ⟨hs.tr.mono hex.keep, hr', hs.ex.trans hex⟩
  have hend := run_endLoop (P := P) ho hbusy
  generalize w.putObj l (.loop { rec with state := .exhausted }) = w4 at hs' hend
  refine ⟨rec.pending, w4, hend, ?_⟩
  rw [hA.pend]
  generalize (hget H b).e = e at h' hs'
  match e with
  | 0 => exact ⟨T, _, φ', hs', h'⟩
  | 1 => exact wpIn_ret ⟨_, h' _ (List.mem_singleton.2 rfl), rfl, φ', hs'⟩
  | n + 2 => exact wpIn_exit ⟨_, h' _ (List.mem_singleton.2 rfl), rfl, rfl, φ', hs'⟩
theorem loopF_on {f fnid dfs : Nat} {rp : List Nat} {g : Operand} {ps : Array Tmp} {assign body : Code} (hat : At P N f rp (.rangeFunc g ps assign body)) (hrec : RecOk P r) (hL : AllOk L) (hs : St P w0 N H0 φ0 T H φ a w)
    (h : ∀ x ∈ loopF P f rp g k r T H, x ∈ L) : ∃ d f' args, (∀ w', (resolve a.eval (rangeCall g w.heap.size) 0).run P w' = .ok d w') ∧
      (invoke d.target d.args).run P (w.alloc (.loop { state := .ready, pending := none, fn := fnid, tmps := a.tmps, params := ps, assign, body, defers := dfs })) = .ok (.enter f' args) (w.alloc (.loop { state := .ready, pending := none, fn := fnid, tmps := a.tmps, params := ps, assign, body, defers := dfs })) ∧
      CallsIn (fen ro) 0 P f' args (w.alloc (.loop { state := .ready, pending := none, fn := fnid, tmps := a.tmps, params := ps, assign, body, defers := dfs })) (rangePost (fen ro) 0 P w.heap.size (QK P w0 r N H0 φ0 L k) a) := by
  unfold loopF newC at h
  cases hn : nble H.n 32766
  · rw [hn] at h; exact (failR_sub hL h).elim
  rw [hn, bi_true] at h
  cases h13 : nbeq ((getO P g).run T).tag 13
  · rw [h13] at h; exact (failR_sub hL h).elim
  rw [h13] at h
  simp only [bi_true] at h
  obtain ⟨fn, top, k1, k2, k3, k4⟩ := hat
  obtain ⟨φ2, hr2, hex2, hφ2⟩ := new_blk (B := ⟨5, 0, 0, [pathV f rp, encF (noMk T)]⟩) (o := .loop { state := .ready, pending := none, fn := fnid, tmps := a.tmps, params := ps, assign, body, defers := dfs }) hs.hr (ble_true.1 hn)
    ⟨(fun h => by cases h), (fun h => by cases h), (fun h => by cases h), fun _ => .inr <| .inl ⟨rfl, _, f, rp, fn, top, g, noMk T, rfl, ⟨k1, k2, k4, rfl, marksT_noMk T, by rw [k3]; exact hs.tr.size, fun t => by rw [getB_noMk]; exact hs.tr.val t, rfl, rfl⟩⟩⟩
  generalize hw2 : w.alloc (.loop { state := .ready, pending := none, fn := fnid, tmps := a.tmps, params := ps, assign, body, defers := dfs }) = w2 at hr2
  have hmem : ∀ c ∈ r ((getO P g).run T) [yldV H.n] (hnew H ⟨5, 0, 0, [pathV f rp, encF (noMk T)]⟩), ∀ x ∈ bi (nbeq c.ok 1) (endL k r T H.n c.H) (failR c.why), x ∈ L := fun c hc x hx => h x (mem_fmL.2 ⟨c, hc, hx⟩)
  have hall : AllC (r ((getO P g).run T) [yldV H.n] (hnew H ⟨5, 0, 0, [pathV f rp, encF (noMk T)]⟩)) := fun c hc => by
    cases hb : nbeq c.ok 1
    · have := hmem c hc; rw [hb] at this; exact (failR_sub hL this).elim
    · exact beq_true.1 hb
  have hg := hs.tr.eval g
  rcases hrec w0 _ φ2 w2 _ _ [yldV H.n] [.func (.yield w.heap.size) #[] #[]] (hg.mono hex2.keep) (.cons (.yld _ _ _ _ _ _ hφ2) .nil) hr2 hall with ⟨f', first, cap, fn', e1, e2, e3, e4, hcalls⟩ | ⟨l', f', tmps, as', bd', e1, _⟩ | ⟨_, _, _, _, hno, _⟩
  · refine ⟨{ target := .fn (.func f') cap, args := first ++ #[.func (.yield w.heap.size) #[] #[]] }, f', first ++ #[.func (.yield w.heap.size) #[] #[]] ++ cap, fun w' => ?_, ?_, ?_⟩
    · have : a.eval (.const (.func (.yield w.heap.size) #[] #[])) = .func (.yield w.heap.size) #[] #[] := rfl
      simp only [resolve, rangeCall, e1, Deferred.ofValue, Sem.run_pure', List.map_toArray, List.map_cons, List.map_nil, this]
    · simp only [invoke, callFunc, program, Sem.run_bind, Sem.run, e2, e4, Sem.run_pure', Result.andThen_ok, e3]
      rfl
    · have hcalls' : Calls P f' (first ++ #[.func (.yield w.heap.size) #[] #[]] ++ cap) w2 _ := hcalls
      refine callsIn_fen (Calls.mono hcalls' fun e w3 he => ?_)
      cases e with
      | returned v =>
        obtain ⟨c, hc, φ3, g1, g2, g3⟩ := he
        have hx := hmem c hc
        rw [beq_true.2 (hall c hc), bi_true] at hx
        have hs3 : St P w0 N H0 φ0 T c.H φ3 a w3 := ⟨(hs.tr.mono hex2.keep).mono g3.keep, g2, (hs.ex.trans hex2).trans g3⟩
        exact endL_on hL hs3 (g3.keep _ _ hφ2).1 hx
      | panicked ch => exact he.elim
      | outgrown => exact he.elim
  · obtain ⟨_, _, e2, _⟩ := hg.of_fn (beq_true.1 h13)
    rw [e2] at e1
    injection e1 with e1
    cases e1
  · exact (hno _ (List.mem_singleton.2 rfl) _ rfl).elim
theorem rangeFunc_on {f : Nat} {rp : List Nat} {g : Operand} {ps : Array Tmp} {assign body : Code} (hat : At P N f rp (.rangeFunc g ps assign body)) (hro : InRo ro H0 φ0) (hrec : RecOk P r) (hL : AllOk L) (hs : St P w0 N H0 φ0 T H φ a w)
    (h : ∀ x ∈ (comp P N ro.isSome f rp (.rangeFunc g ps assign body) k).run r T H, x ∈ L) : (Code.rangeFunc g ps assign body).wpIn (fen ro) 0 P (QK P w0 r N H0 φ0 L k) a w := by
  refine wpIn_rangeFunc fun fnid _ => ?_
  cases ro with
  | none =>
    have h' : ∀ x ∈ newC H ⟨4, 0, 0, []⟩ yldV (fun H' _ => loopF P f rp g k r (addMark T H.n) H'), x ∈ L := h
    unfold newC at h'
    cases hn : nble H.n 32766
    · rw [hn] at h'; exact (failR_sub hL h').elim
    rw [hn, bi_true] at h'
    obtain ⟨φ1, hr1, hex1, hφ1⟩ := new_blk (B := ⟨4, 0, 0, []⟩) (o := .deferred (some [])) hs.hr (ble_true.1 hn) ⟨(fun h => by cases h), (fun h => by cases h), (fun h => by cases h), fun _ => .inl ⟨rfl, rfl⟩⟩
    have htr := hs.tr.mono hex1.keep
    have hs1 : St P w0 N H0 φ0 (addMark T H.n) (hnew H ⟨4, 0, 0, []⟩) φ1 { a with defers := [{ target := .collected w.heap.size, args := #[] }] ++ a.defers } (w.alloc (.deferred (some []))) :=
      ⟨⟨htr.size, fun t => by rw [getB_addMark]; exact htr.val t, ⟨w.heap.size, a.defers, rfl, hφ1, htr.defers⟩, htr.gl⟩, hr1, hs.ex.trans hex1⟩
    obtain ⟨d, f', args, e1, e2, e3⟩ := loopF_on (ro := none) (fnid := fnid) (dfs := w.heap.size) hat hrec hL hs1 h'
    have hsz : (w.alloc (.deferred (some []))).heap.size = w.heap.size + 1 := World.size_alloc _ _
    rw [hsz] at e1 e3
    exact ⟨_, _, _, d, _, f', args, _, run_enterLoop_outer _ _ _ _ _, e1 _, fun _ _ => trivial, e2, fen_depth, e3⟩
  | some l =>
    have h' : ∀ x ∈ loopF P f rp g k r T H, x ∈ L := h
    obtain ⟨b, hb0, hbn, hb32, hbk⟩ := hro l rfl
    obtain ⟨rec, _, _, _, _, _, _, ho, _⟩ := loop_at hs.hr (hs.ex.keep _ _ hb0).1 (hs.ex.loop b hbn hb32 hbk)
    obtain ⟨d, f', args, e1, e2, e3⟩ := loopF_on (ro := some l) (fnid := fnid) (dfs := rec.defers) hat hrec hL hs h'
    refine ⟨w.heap.size, [], _, d, _, f', args, _, ?_, e1 _, fun _ _ => trivial, e2, fen_depth, e3⟩
    unfold Instr.enterLoop
    simp only [fen, Sem.run_bind, run_getLoop ho, Result.andThen_ok, Sem.run_pure', run_newObj]
end loop
end Go.Eng
