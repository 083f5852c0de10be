
/- A part of the proof that the evaluator in GnC, and the driver in GnZ, answer as the model does; no conditions. -/
import Derived.Test.YtfmoohdaimlggaaGreatDoorGnD1
namespace Go.Eng
open Go.RowKit
variable {ro : Option Nat} {P : Program} {w0 : World} {r : Rec} {N : Nat} {H0 H : Hp} {φ0 φ : Ph} {L : RL} {T : Fr} {a : Act} {w : World} {c : Kont}

theorem evD {x : OpC} (hx : NoCall x) : (runD P x).run r T H c = x.ev (fun o => (getO P o).run T) H c := by
  cases x with
  | call f xs => exact absurd rfl (hx f xs)
  | cN xs f => show f.run ((getsO P xs).run T) H _ = _; rw [getsO_eq]; rfl
  | _ => rfl
theorem ev_congr {x : OpC} {ρ ρ' : Operand → AV} (h : ∀ y ∈ opsC x, ρ y = ρ' y) : x.ev ρ H c = x.ev ρ' H c := by
  cases x with
  | c0 f => rfl
  | c1 x f => show f.run _ H c = f.run _ H c; rw [h x (by simp [opsC])]
  | c2 x y f => show f.run _ _ H c = f.run _ _ H c; rw [h x (by simp [opsC]), h y (by simp [opsC])]
  | c3 x y z f => show f.run _ _ _ H c = f.run _ _ _ H c; rw [h x (by simp [opsC]), h y (by simp [opsC]), h z (by simp [opsC])]
  | cN xs f => show f.run (xs.map ρ) H c = f.run (xs.map ρ') H c; rw [List.map_congr_left (show ∀ y ∈ xs, ρ y = ρ' y from h)]
  | call x xs => rfl
theorem mem_tmpsO {l : List Operand} {t : Nat} : t ∈ tmpsO l ↔ Operand.tmp t ∈ l := by
  induction l with
  | nil => simp [tmpsO]
  | cons x l ih =>
    cases x <;> simp [tmpsO, ih]
theorem getO_congr {T' : Fr} {l : List Operand} (h : ∀ t ∈ tmpsO l, (getB t).run T = (getB t).run T') : ∀ y ∈ l, (getO P y).run T = (getO P y).run T' := by
  intro y hy
  cases y with
  | tmp t => exact h t (mem_tmpsO.2 hy)
  | global g => exact getO_gcongr
  | _ => rfl
theorem runD_congr {x : OpC} {T' : Fr} (h : ∀ t ∈ tmpsO (opsC x), (getB t).run T = (getB t).run T') : (runD P x).run r T H c = (runD P x).run r T' H c := by
  by_cases hx : NoCall x
  · rw [evD hx, evD hx]
    exact ev_congr (getO_congr h)
  · cases x with
    | call f xs =>
      have hg := getO_congr (P := P) h
      show fmL (r ((getO P f).run T) ((getsO P xs).run T) H) _ = fmL (r ((getO P f).run T') ((getsO P xs).run T') H) _
      rw [hg f (by simp [opsC]), getsO_eq, getsO_eq, List.map_congr_left fun y hy => hg y (by simp [opsC, hy])]
    | _ => exact absurd (by first | exact noCall_0 | exact noCall_1 | exact noCall_2 | exact noCall_3 | exact noCall_N) hx
/-- one operation, of whose operands alone something is known -/
theorem opD_step {o : Oper} {K : Act → World → Prop} {Q : Exit → Act → World → Prop} (hrec : RecOk P r) (hL : AllOk L) (hv : ∀ t ∈ tmpsO (opsC (opOf P o)), VR φ ((getB t).run T) (a.tmps.getD t undef)) (hr : HR P w0 H φ w)
    (h : ∀ x ∈ (runD P (opOf P o)).run r T H c, x ∈ L)
    (hK : ∀ val v H' φ' w', VR φ' v val → HR P w0 H' φ' w' → EX H φ H' φ' → (∀ x ∈ c H' v, x ∈ L) → K (a.put o.dst val) w') : o.wpIn (fen ro) 0 P a w K Q := by
  have hop : ∀ y ∈ opsC (opOf P o), VR φ ((getO P y).run T) (a.eval y) := by
    intro y hy
    cases y with
    | tmp t => exact hv t (mem_tmpsO.2 hy)
    | const v => exact (av_ok v).1
    | global g => exact vr_global hr.gl
    | func f => exact .fn f 0 0 0 [] [] [] .nil rfl
  by_cases hc : NoCall (opOf P o)
  · obtain ⟨ρA, e1, e2, e3⟩ : ∃ ρA : Operand → AV, (∀ y ∈ opsC (opOf P o), (getO P y).run T = ρA y) ∧ (∀ y, VR φ (ρA y) (a.eval y)) ∧ (ρA zeroO).p = 0 := by
      classical
      refine ⟨fun y => if y ∈ opsC (opOf P o) then (getO P y).run T else unkV, fun y hy => by simp only [if_pos hy], fun y => ?_, ?_⟩
      · by_cases hy : y ∈ opsC (opOf P o)
        · simp only [if_pos hy]; exact hop y hy
        · simp only [if_neg hy]; exact .unk _ _ _ _ _ _
      · by_cases hy : zeroO ∈ opsC (opOf P o)
        · simp only [if_pos hy]; rfl
        · simp only [if_neg hy]; rfl
    rw [evD hc, ev_congr e1] at h
    obtain ⟨H', v, φ', val, w', h1, h2, h3, h4, h5⟩ := opOf_ok (P := P) (w0 := w0) (ρ := a.eval) e2 e3 hr (hL.of_sub h)
    have hon := hK val v H' φ' w' h3 h4 h5 fun x hx => h x (h1 x hx)
    refine ⟨fun _ _ => trivial, ?_⟩
    rw [Oper.semAt_eq _ _ _ (not_defer (hL.of_sub h))]
    rcases h2 with h2 | ⟨h2, rfl⟩
    · rw [h2, Oper.uponIn_value]; exact hon
    · rw [h2, Oper.uponIn_skip]; exact hon
  · obtain ⟨cl, f, ho, hcl, hopc⟩ := opOf_call hc
    rw [hopc] at h hop
    have hmem : ∀ q ∈ r ((getO P f).run T) ((getsO P cl.args.toList).run T) H, ∀ x ∈ bi (nbeq q.ok 1) (c q.H q.v) (failR q.why), x ∈ L := fun q hq x hx => h x (mem_fmL.2 ⟨q, hq, hx⟩)
    have hall : AllC (r ((getO P f).run T) ((getsO P cl.args.toList).run T) H) := fun q hq => by
      cases hb : nbeq q.ok 1
      · have := hmem q hq; rw [hb] at this; exact (failR_sub hL this).elim
      · exact beq_true.1 hb
    have hargs : VRs φ ((getsO P cl.args.toList).run T) (cl.args.toList.map a.eval) := by
      rw [getsO_eq]
      have : ∀ y ∈ cl.args.toList, VR φ ((getO P y).run T) (a.eval y) := fun y hy => hop y (by simp only [opsC, List.mem_cons]; exact .inr hy)
      generalize cl.args.toList = l at this
      induction l with
      | nil => exact .nil
      | cons y l ih => exact .cons (this y (by simp)) (ih fun z hz => this z (by simp [hz]))
    refine call_wp ho hcl (hrec w0 H φ w _ _ _ _ (hop f (by simp [opsC])) hargs hr hall) fun v w' he => ?_
    obtain ⟨q, hq, φ', g1, g2, g3⟩ := he
    have hx := hmem q hq
    rw [beq_true.2 (hall q hq)] at hx
    exact hK v q.v q.H φ' w' g1 g2 g3 hx
theorem yielded_at {all : Array Oper} {j d : Nat} (hd : (all[j]?).bind (·.dst) = some d) (hN : d < a.tmps.size) : yielded all a.tmps j = match a.tmps.getD d undef with | .bool b => some b | _ => none := by
  unfold yielded
  rw [hd]
  simp [hN]
  cases a.tmps[d] <;> rfl
/-- the same, behind its guard -/
theorem runG_step {all : Array Oper} {i : Nat} {o : Oper} {K : Act → World → Prop} {Q : Exit → Act → World → Prop} (hrec : RecOk P r) (hL : AllOk L) (ho : all[i]? = some o) (hok : okOf N all o = true) (hN : N ≤ a.tmps.size)
    (hv : ∀ t ∈ appL (gdOf all o) (tmpsO (opsC (opOf P o))), VR φ ((getB t).run T) (a.tmps.getD t undef)) (hr : HR P w0 H φ w)
    (h : ∀ x ∈ (runG P all o).run r T H c, x ∈ L)
    (hK : ∀ val v H' φ' w', VR φ' v val → HR P w0 H' φ' w' → EX H φ H' φ' → (∀ x ∈ c H' v, x ∈ L) → K (a.put o.dst val) w') : wpOpIn (fen ro) 0 P all Q i K a w := by
  rw [appL_eq] at hv
  have hg1 : allL (fun d => nble (Nat.succ d) N) (gdOf all o) = true := by
    unfold okOf at hok
    cases hb : allL (fun d => nble (Nat.succ d) N) (gdOf all o)
    · rw [hb] at hok; cases hok
    · rfl
  unfold Go.wpOpIn
  simp only [ho]
  unfold runG at h
  cases hg : o.guard with
  | none =>
    rw [hg] at h
    simp only [Region.wanted, hg, if_true]
    exact (opD_step hrec hL (fun t ht => hv t (List.mem_append_right _ ht)) hr h hK)
  | some jw =>
    obtain ⟨j, want⟩ := jw
    rw [hg] at h
    simp only [] at h
    cases hd : (all[j]?).bind (·.dst) with
    | none => rw [hd] at h; exact (failR_sub hL h).elim
    | some d =>
      rw [hd] at h
      simp only [] at h
      have hgd : gdOf all o = [d] := by simp only [gdOf, hg, hd]
      rw [hgd] at hg1 hv
      have hdN : d < N := by
        have : bi (nble (Nat.succ d) N) true false = true := hg1
        cases hb : nble (Nat.succ d) N
        · rw [hb] at this; cases this
        · exact ble_true.1 hb
      have hy := yielded_at (a := a) hd (Nat.lt_of_lt_of_le hdN hN)
      have hvd := hv d (by simp)
      simp only [Region.wanted, hg]
      cases h8 : nbeq ((getB d).run T).tag 8
      · rw [h8, bi_false] at h
        cases h19 : nbeq ((getB d).run T).tag 19
        · rw [h19] at h; exact (failR_sub hL h).elim
        · rw [h19, bi_true] at h
          have e := hvd.of_ud (beq_true.1 h19)
          rw [e] at hy
          rw [hy]
          simp only [undef]
          exact ⟨fun _ _ => trivial, hK undef udV H φ w (.ud _ _ _ _ _) hr (EX.refl H φ) h⟩
      · rw [h8, bi_true] at h
        obtain ⟨b, e, hp, _⟩ := hvd.of_bool (beq_true.1 h8)
        rw [e] at hy
        rw [hy]
        have hbw : nbeq ((getB d).run T).p (bi want 1 0) = (some b == some want) := by
          rw [hp]; cases b <;> cases want <;> rfl
        rw [hbw] at h
        cases hw : (some b == some want)
        · rw [hw] at h
          exact ⟨fun _ _ => trivial, hK undef udV H φ w (.ud _ _ _ _ _) hr (EX.refl H φ) h⟩
        · rw [hw] at h
          exact (opD_step hrec hL (fun t ht => hv t (List.mem_append_right _ ht)) hr h hK)
theorem runG_congr {all : Array Oper} {o : Oper} {T' : Fr} (h : ∀ t ∈ appL (gdOf all o) (tmpsO (opsC (opOf P o))), (getB t).run T = (getB t).run T') : (runG P all o).run r T H c = (runG P all o).run r T' H c := by
  rw [appL_eq] at h
  have hD : (runD P (opOf P o)).run r T H c = (runD P (opOf P o)).run r T' H c := runD_congr fun t ht => h t (List.mem_append_right _ ht)
  unfold runG
  cases hg : o.guard with
  | none => exact hD
  | some jw =>
    obtain ⟨j, want⟩ := jw
    simp only []
    cases hd : (all[j]?).bind (·.dst) with
    | none => rfl
    | some d =>
      have hgd : gdOf all o = [d] := by simp only [gdOf, hg, hd]
      have e := h d (by rw [hgd]; simp)
      simp only []
      rw [e, hD]
theorem soft_runG {all : Array Oper} {o : Oper} (h : clsOf o = 0) : SoftK H ((runG P all o).run r T H) := by
  have hs := soft_op (P := P) h r T H
  unfold runG
  cases hg : o.guard with
  | none => exact hs
  | some jw =>
    obtain ⟨j, want⟩ := jw
    simp only []
    cases hd : (all[j]?).bind (·.dst) with
    | none => exact soft_fail
    | some d => exact soft_bi (soft_bi hs soft_val) (soft_bi soft_val soft_fail)

/-! ### blocks that stand in the abstract memory already, and not yet in the machine's -/
theorem HR.late {b : Nat} {obj : Obj} (hr : HR P w0 H φ w) (hb : b < H.n) (hφ : φ b = none) (hB : BRel P φ w.heap.size (hget H b) obj) :
    ∃ φ' : Ph, Le φ φ' ∧ φ' b = some w.heap.size ∧ (∀ b', b' ≠ b → φ' b' = φ b') ∧ HR P w0 H φ' (w.alloc obj) ∧ φ'.fz = φ.fz := by
  let φ' : Ph := ⟨fun b' => if b' = b then some w.heap.size else φ b', φ.k, φ.op, φ.fz, fun b' => if b' = b then (hget H b).cs.length else φ.tl b'⟩
  have hb1 : φ' b = some w.heap.size := by simp [φ']
  have hb2 : ∀ b', b' ≠ b → φ' b' = φ b' := fun b' h => by simp [φ', h]
  have hle : Le φ φ' := ⟨fun b' x h => ⟨by rw [hb2 b' (fun e => by rw [e, hφ] at h; cases h)]; exact h, rfl⟩, rfl, fun _ _ h => h, fun b' x h => if_neg fun e => by rw [e, hφ] at h; cases h⟩
  have hlt : ∀ b' x, φ b' = some x → x < w.heap.size := fun b' x h => by
    obtain ⟨_, _, o, h3, _⟩ := hr.blk b' x h
    exact (Array.getElem?_eq_some_iff.1 h3).1
  refine ⟨φ', hle, hb1, hb2, ⟨?_, ?_, hr.n, hr.lim, hr.below.alloc' hle obj, hr.gl.mono hle, hr.op, ?_, ?_, hr.fo⟩, rfl⟩
  · intro b' x h
    by_cases hbb : b' = b
    · subst hbb
      rw [hb1] at h; cases h
      refine ⟨hb, fun _ => .inl hr.below.size, obj, ?_, hB.mono hle rfl⟩
      show (w.heap.push obj)[w.heap.size]? = _
      simp
    · rw [hb2 b' hbb] at h
      obtain ⟨h1, h2, o, h3, h4⟩ := hr.blk b' x h
      refine ⟨h1, h2, o, ?_, h4.mono hle rfl⟩
      rw [Below.heap_alloc _ _ _ (hlt b' x h)]; exact h3
  · intro b1 b2 x h1 h2 k1 k2
    by_cases e1 : b1 = b
    · by_cases e2 : b2 = b
      · rw [e1, e2]
      · rw [e1, hb1] at h1; cases h1
        rw [hb2 b2 e2] at h2
        exact absurd (hlt _ _ h2) (by omega)
    · by_cases e2 : b2 = b
      · rw [e2, hb1] at h2; cases h2
        rw [hb2 b1 e1] at h1
        exact absurd (hlt _ _ h1) (by omega)
      · rw [hb2 b1 e1] at h1
        rw [hb2 b2 e2] at h2
        exact hr.inj b1 b2 x h1 h2 k1 k2
  · intro x C hx
    obtain ⟨⟨t, fr, h1⟩, h2⟩ := hr.fz x C hx
    have hxs := (Array.getElem?_eq_some_iff.1 h1).1
    refine ⟨⟨t, fr, by rw [Below.heap_alloc _ _ _ hxs]; exact h1⟩, fun b' hb' hl => ?_⟩
    by_cases e : b' = b
    · rw [e, hb1] at hb'; cases hb'; omega
    · rw [hb2 b' e] at hb'; exact h2 b' hb' hl
  · intro b' x hb' hk
    by_cases e : b' = b
    · subst e; exact (if_pos rfl).symm
    · rw [hb2 b' e] at hb'
      exact (hr.tl b' x hb' hk).trans (if_neg e).symm
theorem buildSlice_new {t e : TypeId} {z : AV} {sz len : Nat} {is : List Nat} {pl : List (Nat × Nat)} {vs cs : List AV} {vals : List Value} {parts : Array (Nat × Value)} (hu : (tyB P t).run = some (.slice e)) (hs : (szB P e).run = some sz) (hz : (zeB P e).run = some z)
    (hp : parts.toList = is.zip vals) (hl : is.length = vals.length) (hpl : placesOf (fun i => some (i * sz, sz)) is = some pl) (hsm : len * sz ≤ 100000) (hzs : (cellsOf z).length = sz)
    (hv : VRs φ vs vals) (hcs : fillL pl vs (repC len (cellsOf z)) = some cs) :
    ∃ r : Array Value, (Instr.buildSlice t len parts).run P w = .ok (.slice (some ⟨w.heap.size, 0, none⟩) len len) (w.alloc (.cells r e)) ∧ VRs φ cs r.toList ∧ ∀ c ∈ cs, okCell c = true := by
  obtain ⟨i, zv, hi, hzv, hzr, hc⟩ := ze_ok hz
  obtain ⟨h1, h2⟩ := (hzr φ).cells hc
  obtain ⟨ie, hie, he⟩ := Option.map_eq_some_iff.1 (show (P.info? e).map (·.size) = some sz from hs)
  rw [hi] at hie; cases hie
  have hzsz : zv.cells.size = sz := by rw [h1.length] at hzs; simpa using hzs
  have hmade := made_toList hzsz len
  have h3 : VRs φ (repC len (cellsOf z)) (madeCells zv.cells (len * sz)).toList := by rw [hmade]; exact h1.repC len
  obtain ⟨r, q1, q2, q3⟩ := fill_ok is pl vs vals _ cs _ hpl hv h3 (cells_ok_rep h2 len) hcs hl
  rw [← hp] at q1
  refine ⟨r, ?_, q2, q3⟩
  subst he
  by_cases h0 : len * i.size = 0
  · rw [h0] at q1
    have q1' : Instr.fill (fun k => some (k * i.size, i.size)) (#[] : Array Value) parts.toList = some r := by
      have e0 : madeCells zv.cells 0 = #[] := by simp [madeCells]
      rw [e0] at q1
      exact q1
    simp [Instr.buildSlice, run_underlying hu, sizeOf, typeInfo, hi, h0, newRow]
    rw [show Array.map (fun _ => (default : Value)) (Array.range 0) = #[] from by simp, q1']
    rfl
  · exact run_buildSlice w t e len parts r i zv hu hi hzv (by omega) h0 q1
/-- what makes a block: which one, and what it stands for -/
theorem new_shapeD {o : Oper} (hc : clsOf o = 1) : (∃ n, ∀ H c, (runD P (opOf P o)).run r T H c = failR n) ∨ ∃ (B : AB) (mk : Nat → AV), (∀ H c, (runD P (opOf P o)).run r T H c = newC H B mk c) ∧ B.kind = 1 ∧
    ∀ (φ : Ph) (a : Act) (w : World), GL P φ → (∀ t ∈ tmpsO (opsC (opOf P o)), VR φ ((getB t).run T) (a.tmps.getD t undef)) →
      ∃ obj val, (execOp a.eval o).run P w = .ok (.value val) (w.alloc obj) ∧ BRel P φ w.heap.size B obj ∧ ∀ (φ' : Ph) n, φ' n = some w.heap.size → VR φ' (mk n) val := by
  cases ho : o.op
  case alloc t =>
    simp only [opOf, ho]
    cases hz : (zeB P t).run with
    | none => exact .inl ⟨3, fun _ _ => rfl⟩
    | some z =>
      refine .inr ⟨cellsB (cellsOf z) 1, ptr0, fun _ _ => rfl, rfl, fun φ a w _ _ => ?_⟩
      obtain ⟨i, zv, hi, hzv, hv, hcz⟩ := ze_ok hz
      obtain ⟨h1, h2⟩ := (hv φ).cells hcz
      refine ⟨.cells zv.cells t, .pointer (some ⟨w.heap.size, 0, none⟩), ?_, ⟨fun _ => ⟨zv.cells.toList, [], t, by simp, h1, h2, (fun h => by cases h), (fun h => by exact no21 h)⟩, fun h => by simp [cellsB] at h, fun h => by simp [cellsB] at h, no41⟩, fun φ' n h => .ptr _ _ _ _ _ _ h⟩
      simp only [execOp, ho, Instr.alloc, newVar, newRow, Sem.run_bind, run_zero hi hzv, run_newObj, Result.andThen_ok, Sem.run_pure']
  case buildSlice t len parts =>
    simp only [opOf, ho]
    split
    · rename_i e ht
      cases hs : (szB P e).run with
      | none => exact .inl ⟨5, fun _ _ => rfl⟩
      | some sz =>
        simp only [om_some]
        cases hz : (zeB P e).run with
        | none => exact .inl ⟨5, fun _ _ => rfl⟩
        | some z =>
          simp only [om_some]
          cases hpl : placesOf (fun i => some (i * sz, sz)) (parts.toList.map (·.1)) with
          | none => exact .inl ⟨5, fun _ _ => rfl⟩
          | some pl =>
            simp only [om_some]
            cases hcond : bi (nble (Nat.mul len sz) 100000) (nbeq (lenL (cellsOf z)) sz) false
            · exact .inl ⟨5, fun _ _ => rfl⟩
            · simp only [bi_true]
              cases hcs : fillL pl ((getsO P (parts.toList.map (·.2))).run T) (repC len (cellsOf z)) with
              | none => exact .inl ⟨5, fun H c => by show om (fillL pl ((getsO P (parts.toList.map (·.2))).run T) (repC len (cellsOf z))) _ _ = _; rw [hcs]; rfl⟩
              | some cs =>
                refine .inr ⟨cellsB cs 1, fun b => slV b 0 len (exS len), fun H c => by show om (fillL pl ((getsO P (parts.toList.map (·.2))).run T) (repC len (cellsOf z))) _ _ = _; rw [hcs]; rfl, rfl, fun φ a w hgl hv => ?_⟩
                have hvs : VRs φ ((getsO P (parts.toList.map (·.2))).run T) ((parts.toList.map (·.2)).map a.eval) := by
                  have hop : ∀ y ∈ parts.toList.map (·.2), VR φ ((getO P y).run T) (a.eval y) := by
                    intro y hy
                    cases y with
                    | tmp t' =>
                      refine hv t' ?_
                      simp only [opOf, ho, ht, hs, hz, hpl, om_some, hcond, bi_true, opsC]
                      exact mem_tmpsO.2 hy
                    | const v => exact (av_ok v).1
                    | global g => exact vr_global hgl
                    | func f => exact .fn f 0 0 0 [] [] [] .nil rfl
                  rw [getsO_eq]
                  generalize parts.toList.map (·.2) = l at hop
                  induction l with
                  | nil => exact .nil
                  | cons y l ih => exact .cons (hop y (by simp)) (ih fun z hz => hop z (by simp [hz]))
                obtain ⟨hc1, hc2⟩ := bi_and.1 hcond
                have hc2 := beq_true.1 hc2
                rw [lenL_eq] at hc2
                obtain ⟨rr, q1, q2, q3⟩ := buildSlice_new (P := P) (w := w) ht hs hz (parts_toList (ρ := a.eval) parts) (by simp) hpl (ble_true.1 hc1) hc2 hvs hcs
                refine ⟨.cells rr e, .slice (some ⟨w.heap.size, 0, none⟩) len len, ?_, ⟨fun _ => ⟨rr.toList, [], e, by simp, q2, q3, (fun h => by cases h), (fun h => by exact no21 h)⟩, fun h => by simp [cellsB] at h, fun h => by simp [cellsB] at h, no41⟩, fun φ' n h => vr_slEx h (Nat.le_refl _) 0⟩
                simp only [execOp, ho, Sem.run_bind, q1, Result.andThen_ok, Sem.run_pure']
    · exact .inl ⟨5, fun _ _ => rfl⟩
  case makeSlice t l m =>
    simp only [opOf, ho]
    split
    · rename_i e ht
      cases hs : (szB P e).run with
      | none => exact .inl ⟨12, fun _ _ => rfl⟩
      | some sz =>
        simp only [om_some]
        cases hbt : (btB P e).run with
        | none => exact .inl ⟨12, fun _ _ => rfl⟩
        | some bt =>
          simp only [om_some]
          cases hz : (zeB P e).run with
          | none => exact .inl ⟨12, fun _ _ => rfl⟩
          | some z =>
            simp only [om_some]
            cases hcond : bi (nble bt 1000000) (nbeq (lenL (cellsOf z)) sz) false
            · exact .inl ⟨12, fun _ _ => rfl⟩
            · simp only [bi_true]
              have hshow : ∀ H c, (runD P (.c2 l m (makeSliceC (cellsOf z)))).run r T H c = (makeSliceC (cellsOf z)).run ((getO P l).run T) ((getO P m).run T) H c := fun _ _ => rfl
              cases hcd : bi (nbeq ((getO P l).run T).tag 3) (bi (nbeq ((getO P m).run T).tag 3) (bi (nble ((getO P l).run T).p ((getO P m).run T).p) (nble ((getO P m).run T).p 100000) false) false) false
              · refine .inl ⟨12, fun H c => ?_⟩
                rw [hshow]
                unfold makeSliceC
                simp only []
                cases e1 : nbeq ((getO P l).run T).tag 3
                · rfl
                cases e2 : nbeq ((getO P m).run T).tag 3
                · rfl
                cases e3 : nble ((getO P l).run T).p ((getO P m).run T).p
                · rfl
                cases e4 : nble ((getO P m).run T).p 100000
                · rfl
                rw [e1, e2, e3, e4] at hcd; cases hcd
              · obtain ⟨g1, hcd⟩ := bi_and.1 hcd
                obtain ⟨g2, hcd⟩ := bi_and.1 hcd
                obtain ⟨g3, g4⟩ := bi_and.1 hcd
                refine .inr ⟨cellsB (repC ((getO P m).run T).p (cellsOf z)) 1, fun b => slV b 0 ((getO P l).run T).p (exS ((getO P m).run T).p), fun H c => ?_, rfl, fun φ a w hgl hv => ?_⟩
                · rw [hshow]
                  unfold makeSliceC
                  simp only [g1, g2, g3, g4, bi_true]
                have hop : ∀ y ∈ [l, m], VR φ ((getO P y).run T) (a.eval y) := by
                  intro y hy
                  cases y with
                  | tmp t' =>
                    refine hv t' ?_
                    simp only [opOf, ho, ht, hs, hbt, hz, om_some, hcond, bi_true, opsC]
                    exact mem_tmpsO.2 hy
                  | const v => exact (av_ok v).1
                  | global g => exact vr_global hgl
                  | func f => exact .fn f 0 0 0 [] [] [] .nil rfl
                obtain ⟨hb6, hzs⟩ := bi_and.1 hcond
                have hzs := beq_true.1 hzs
                have hb6 := ble_true.1 hb6
                rw [lenL_eq] at hzs
                obtain ⟨i, zv, hi, hzv, hzr, hc'⟩ := ze_ok hz
                obtain ⟨h1, h2⟩ := (hzr φ).cells hc'
                obtain ⟨ie, hie, he⟩ := Option.map_eq_some_iff.1 (show (P.info? e).map (·.size) = some sz from hs)
                rw [hi] at hie; cases hie
                obtain ⟨ie, hie, he'⟩ := Option.map_eq_some_iff.1 (show (P.info? e).map (·.bytes) = some bt from hbt)
                rw [hi] at hie; cases hie
                have g3' := ble_true.1 g3; have g4' := ble_true.1 g4
                obtain ⟨ea, l1, _⟩ := (hop l (by simp)).of_int (c := 3) (by omega) (beq_true.1 g1)
                obtain ⟨eb, l2, _⟩ := (hop m (by simp)).of_int (c := 3) (by omega) (beq_true.1 g2)
                have v1 : valI 3 ((getO P l).run T).p = (((getO P l).run T).p : Int) := valI_lt (by rw [kHalf_3]; omega)
                have v2 : valI 3 ((getO P m).run T).p = (((getO P m).run T).p : Int) := valI_lt (by rw [kHalf_3]; omega)
                rw [v1] at ea
                rw [v2] at eb
                have hzsz : zv.cells.size = i.size := by rw [h1.length] at hzs; rw [he]; simpa using hzs
                have hm := made_toList hzsz ((getO P m).run T).p
                have hbytes : (i.bytes : Int) * (((getO P m).run T).p : Int) ≤ 281474976710656 := by
                  have : i.bytes * ((getO P m).run T).p ≤ 1000000 * 100000 := Nat.mul_le_mul (by omega) g4'
                  have h' : ((i.bytes * ((getO P m).run T).p : Nat) : Int) ≤ 281474976710656 := by omega
                  rwa [Int.natCast_mul] at h'
                have hrun := run_make w t e i zv ht hi hzv .i64 .i64 (((getO P l).run T).p : Int) (((getO P m).run T).p : Int) (by omega) (by omega) hbytes (by omega)
                simp only [Int.toNat_natCast] at hrun
                refine ⟨.cells (madeCells zv.cells (((getO P m).run T).p * i.size)) e, .slice (some ⟨w.heap.size, 0, none⟩) ((getO P l).run T).p ((getO P m).run T).p, ?_, ⟨fun _ => ⟨(madeCells zv.cells (((getO P m).run T).p * i.size)).toList, [], e, by simp, by rw [hm]; exact h1.repC _, cells_ok_rep h2 _, (fun h => by cases h), (fun h => by exact no21 h)⟩, fun h => by simp [cellsB] at h, fun h => by simp [cellsB] at h, no41⟩, fun φ' n h => vr_slEx h g3' 0⟩
                have hrun' : (Instr.makeSlice t (a.eval l) (a.eval m)).run P w = .ok (.slice (some ⟨w.heap.size, 0, none⟩) ((getO P l).run T).p ((getO P m).run T).p) (w.alloc (.cells (madeCells zv.cells (((getO P m).run T).p * i.size)) e)) := by rw [ea, eb]; exact hrun
                simp only [execOp, ho, Sem.run_bind, hrun', Result.andThen_ok, Sem.run_pure']
    · exact .inl ⟨12, fun _ _ => rfl⟩
  all_goals (simp only [clsOf, ho] at hc; first | (cases hc; done) | (split at hc <;> cases hc))
/-- the guard lets it -/
def GdT (all : Array Oper) (o : Oper) (T : Fr) : Prop := match o.guard with
  | none => True
  | some (j, want) => ∃ d, (all[j]?).bind (·.dst) = some d ∧ nbeq ((getB d).run T).tag 8 = true ∧ nbeq ((getB d).run T).p (bi want 1 0) = true
theorem GdT.congr {all : Array Oper} {o : Oper} {T' : Fr} (h : GdT all o T) (he : ∀ t ∈ gdOf all o, (getB t).run T = (getB t).run T') : GdT all o T' := by
  unfold GdT at h ⊢
  unfold gdOf at he
  cases hg : o.guard with
  | none => trivial
  | some jw =>
    obtain ⟨j, want⟩ := jw
    rw [hg] at h he
    obtain ⟨d, h1, h2, h3⟩ := h
    simp only [] at he
    rw [h1] at he
    have e := he d (by simp)
    exact ⟨d, h1, by rw [← e]; exact h2, by rw [← e]; exact h3⟩
/-- what the guard lets is carried out -/
theorem GdT.wanted {all : Array Oper} {o : Oper} (h : GdT all o T) (hok : okOf N all o = true) (hN : N ≤ a.tmps.size) (hv : ∀ t ∈ gdOf all o, VR φ ((getB t).run T) (a.tmps.getD t undef)) : Region.wanted o (yielded all a.tmps) = true := by
  have hg1 : allL (fun d => nble (Nat.succ d) N) (gdOf all o) = true := by
    unfold okOf at hok
    cases hb : allL (fun d => nble (Nat.succ d) N) (gdOf all o)
    · rw [hb] at hok; cases hok
    · rfl
  unfold GdT at h
  cases hg : o.guard with
  | none => simp only [Region.wanted, hg]
  | some jw =>
    obtain ⟨j, want⟩ := jw
    rw [hg] at h
    obtain ⟨d, h1, h2, h3⟩ := h
    have hgd : gdOf all o = [d] := by simp only [gdOf, hg, h1]
    rw [hgd] at hg1 hv
    have hdN : d < N := by
      have : bi (nble (Nat.succ d) N) true false = true := hg1
      cases hb : nble (Nat.succ d) N
      · rw [hb] at this; cases this
      · exact ble_true.1 hb
    have hy := yielded_at (a := a) h1 (Nat.lt_of_lt_of_le hdN hN)
    obtain ⟨b, e, hp, _⟩ := (hv d (by simp)).of_bool (beq_true.1 h2)
    rw [e] at hy
    simp only [Region.wanted, hg]
    rw [hy]
    rw [hp] at h3
    cases b <;> cases want <;> first | rfl | exact absurd h3 (by decide)
/-- the same, behind its guard: it fails, does nothing, or makes the block -/
theorem new_shape {all : Array Oper} {o : Oper} (hc : clsOf o = 1) : (∃ n, ∀ H c, (runG P all o).run r T H c = failR n) ∨ (∀ H c, (runG P all o).run r T H c = c H udV) ∨ ∃ (B : AB) (mk : Nat → AV), (∀ H c, (runG P all o).run r T H c = newC H B mk c) ∧ (GdT all o T ∧ B.kind = 1) ∧
    ∀ (φ : Ph) (a : Act) (w : World), GL P φ → (∀ t ∈ tmpsO (opsC (opOf P o)), VR φ ((getB t).run T) (a.tmps.getD t undef)) →
      ∃ obj val, (execOp a.eval o).run P w = .ok (.value val) (w.alloc obj) ∧ BRel P φ w.heap.size B obj ∧ ∀ (φ' : Ph) n, φ' n = some w.heap.size → VR φ' (mk n) val := by
  have hD := new_shapeD (P := P) (r := r) (T := T) hc
  unfold runG GdT
  cases hg : o.guard with
  | none =>
    rcases hD with h | ⟨B, mk, h1, h2, h3⟩
    · exact .inl h
    · exact .inr (.inr ⟨B, mk, h1, ⟨trivial, h2⟩, h3⟩)
  | some jw =>
    obtain ⟨j, want⟩ := jw
    simp only []
    cases hd : (all[j]?).bind (·.dst) with
    | none => exact .inl ⟨40, fun _ _ => rfl⟩
    | some d =>
      simp only []
      cases h8 : nbeq ((getB d).run T).tag 8
      · cases h19 : nbeq ((getB d).run T).tag 19
        · exact .inl ⟨40, fun _ _ => rfl⟩
        · exact .inr (.inl fun _ _ => rfl)
      · cases hw : nbeq ((getB d).run T).p (bi want 1 0)
        · exact .inr (.inl fun _ _ => rfl)
        · simp only [bi_true]
          rcases hD with h | ⟨B, mk, h1, h2, h3⟩
          · exact .inl h
          · exact .inr (.inr ⟨B, mk, h1, ⟨⟨d, rfl, h8, hw⟩, h2⟩, h3⟩)
end Go.Eng
