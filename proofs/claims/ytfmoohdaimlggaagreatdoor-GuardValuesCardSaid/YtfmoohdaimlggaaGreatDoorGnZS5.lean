
/- A part of the proof that the evaluator in GnC, and the driver in GnZ, answer as the model does; no conditions. -/
import Derived.Test.YtfmoohdaimlggaaGreatDoorGnZS4
import Derived.Test.YtfmoohdaimlggaaGreatDoorGnS22
namespace Go.Eng
open Go.RowKit
variable {P : Program} {w0 : World} {H Hb : Hp} {φ φ0 : Ph} {w : World} {N : Nat} {T : Fr} {a : Act} {lab : Lab} {r : Rec}

/-! ### functions that only look at what they are given, and return what is new -/
def HoldZ (z : Nat → Option (List Value)) (w : World) : Prop := ∀ x C, z x = some C → ∃ t fr, w.heap[x]? = some (.cells C.toArray t fr)
def PurePost (z : Nat → Option (List Value)) (w : World) (v0 : AV) : Ending → World → Prop
  | .returned v, w' => ∃ z', (∀ x C, z x = some C → z' x = some C) ∧ (∀ x C, z' x = some C → z x = some C ∨ w.heap.size ≤ x) ∧ HoldZ z' w' ∧ FV z' v0 v ∧ Below w.heap.size w w'
  | _, _ => False
def PureAt (P : Program) (f : Nat) (args : List AV) (v0 : AV) : Prop := ∀ (z : Nat → Option (List Value)) (w : World) (vals : List Value), HoldZ z w → P.globals.size ≤ w.heap.size → FVs z args vals → Calls P f vals.toArray w (PurePost z w v0)
noncomputable section
def okN (p : Prop) : Nat := (Classical.propDecidable p).byCases (fun _ => 1) (fun _ => 0)
theorem okN_one {p : Prop} : okN p = 1 ↔ p := by
  unfold okN
  cases Classical.propDecidable p with
  | isTrue h => exact ⟨fun _ => h, fun _ => rfl⟩
  | isFalse h => exact ⟨fun e => (by cases e), fun e => absurd e h⟩
def natP (P : Program) (f : Nat) (ts : List TypeId) (V : List AV → AV) : Native := fun args H => om (frzVs P ts args H) (failC 300) fun x => [⟨okN (PureAt P f x.1 (V x.1)), 301, V x.1, x.2⟩]
def baseH (P : Program) : Hp := ⟨noH.t, P.globals.size, P.globals.size⟩
def phz (P : Program) (z : Nat → Option (List Value)) : Ph := ⟨fun b => if b < P.globals.size then some b else none, fun _ => 0, fun t v => (t = 31 ∧ ∃ (x : Nat) (C : List Value), v = .int .i64 (x : Int) ∧ z x = some C) ∨ (t = 29 ∧ ∃ x : Nat, v = .agg #[.int .i64 (x : Int), .int .i64 ((0 : Nat) : Int)]), z, fun _ => 0⟩
end
theorem hget_base (i : Nat) : hget (baseH P) i = noB := hget_noH i
theorem base_ok {z : Nat → Option (List Value)} (hG : P.globals.size ≤ 32767) (hz : HoldZ z w) (hw : P.globals.size ≤ w.heap.size) : BaseY P w (baseH P) (phz P z) := by
  have hφ : ∀ b x, (phz P z) b = some x → b < P.globals.size ∧ x = b := by
    intro b x h
    have h' : (if b < P.globals.size then some b else none) = some x := h
    by_cases hb : b < P.globals.size
    · rw [if_pos hb] at h'; cases h'; exact ⟨hb, rfl⟩
    · rw [if_neg hb] at h'; cases h'
  refine ⟨rfl, ⟨?_, ?_, hG, Nat.le_refl _, BelowX.refl _ _, ?_, ⟨?_, fun x h => by rcases h with h | h <;> have := h.1 <;> omega, fun x _ => .inr ⟨rfl, x, rfl⟩⟩, ?_, ?_, ?_⟩, fun _ _ _ h => by rcases h with h | h <;> have := h.1 <;> omega⟩
  · intro b x h
    obtain ⟨h1, rfl⟩ := hφ b x h
    refine ⟨h1, fun hl => by have hl' : P.globals.size ≤ x := hl; omega, w.heap[x]'(by omega), by simp, ?_⟩
    rw [hget_base]; exact brel_noB
  · intro b b' x h h' k1 k2
    rw [hget_base] at k1; exact absurd rfl k1
  · intro g hg
    show (if g < P.globals.size then some g else none) = some g
    rw [if_pos hg]
  · intro t v h
    rcases h with h | h <;> have := h.1 <;> omega
  · intro x C hx
    refine ⟨hz x C hx, fun b hb hl => ?_⟩
    have hl' : P.globals.size ≤ b := hl
    have := (hφ b x hb).1; omega
  · intro b x h hk
    rw [hget_base] at hk
    rcases hk with hk | hk <;> cases hk
  · intro x C hx
    exact .inr (.inl ⟨rfl, x, C, rfl, hx⟩)
theorem natP_ok (f : Nat) (ts : List TypeId) (V : List AV → AV) : CallOk P f (natP P f ts V) := by
  intro w0 H φ w args vals hargs hr hall
  unfold natP at hall ⊢
  cases hf : frzVs P ts args H with
  | none => rw [hf] at hall; exact (failC_bad hall).elim
  | some x =>
    obtain ⟨as, H1⟩ := x
    rw [hf, om_some] at hall
    rw [om_some]
    have hp : PureAt P f as (V as) := okN_one.1 (hall _ (List.mem_singleton.2 rfl))
    obtain ⟨φ1, f1, g1⟩ := frzVs_ok ts hf hr hargs
    have hr1 := f1.hr
    have hlt : ∀ b x, φ1 b = some x → x < w.heap.size := by
      intro b x hb
      obtain ⟨_, _, o, h3, _⟩ := hr1.blk b x hb
      exact (Array.getElem?_eq_some_iff.1 h3).1
    have hG : P.globals.size ≤ w.heap.size := by
      rcases Nat.eq_zero_or_pos P.globals.size with h0 | h0
      · omega
      · have := hlt _ _ (hr1.gl (P.globals.size - 1) (by omega)); omega
    refine Calls.mono (hp φ1.fz w vals (fun x C hx => (hr1.fz x C hx).1) hG g1) fun e w' he => ?_
    cases e with
    | returned v =>
      obtain ⟨z', z1, z2, z3, z4, z5⟩ := he
      let φ2 : Ph := ⟨φ1.f, φ1.k, φ1.op, z', φ1.tl⟩
      have hle : Le φ1 φ2 := ⟨fun _ _ h => ⟨h, rfl⟩, rfl, z1, fun _ _ _ => rfl⟩
      refine ⟨_, List.mem_singleton.2 rfl, φ2, z4 φ2 rfl, ⟨?_, hr1.inj, hr1.n, hr1.lim, (hr1.below.trans (z5.mono hr1.below.size)).op rfl, hr1.gl, hr1.op, ?_, hr1.tl, ?_⟩, f1.ex.trans ⟨hle, fun b y hb hn => (by have hb' : φ1 b = some y := hb; rw [hb'] at hn; cases hn), Nat.le_refl _, rfl, fun _ _ _ => rfl, fun _ _ _ _ => rfl, fun _ _ _ h => h, ?_⟩⟩
      · intro b y hb
        obtain ⟨h1, h2, o, h3, h4⟩ := hr1.blk b y hb
        exact ⟨h1, h2, o, by rw [z5.block y (hlt b y hb)]; exact h3, h4.mono hle rfl⟩
      · intro y C hy
        refine ⟨z3 y C hy, fun b hb hl => ?_⟩
        rcases z2 y C hy with h | h
        · exact (hr1.fz y C h).2 b hb hl
        · have := hlt b y hb; omega
      · intro y C hy
        rcases z2 y C hy with h | h
        · exact hr1.fo y C h
        · exact .inl (.inl (Nat.le_trans hr1.below.size h))
      · intro y C hy
        rcases z2 y C hy with h | h
        · exact .inl h
        · exact .inr fun b _ hb => by have := hlt b y hb; omega
    | panicked ch => exact he.elim
    | outgrown => exact he.elim
theorem ansY_mem {v v0 : AV} (h : ∀ x ∈ ansY v, x ∈ ansY v0) : v = v0 := by
  have h1 := h _ (List.mem_singleton.2 rfl)
  have h2 := List.mem_singleton.1 h1
  have h3 : (setB 0).run noFr v = (setB 0).run noFr v0 := congrArg Res.T h2
  have h4 := congrArg (fun T => (getB 0).run T) h3
  simp only [getB_setB] at h4
  simpa using h4
/-- the driver's answer is what the function returns -/
theorem pure_ok (hm : P.follows .mixedOrders = true) {f : Nat} {fn : Func} {c : Code} (hf : P.funcs[f]? = some fn) (hbd : fn.body = some c) (hG : P.globals.size ≤ 32767) (hrec : RecOk P r) {lab : Lab} {ts : List TypeId} {n : Nat} {args : List AV} {v0 : AV}
    (h : startY P fn.ntmps lab (baseH P) r (finY P fn.results.toList ts) c n args = ansY v0) : PureAt P f args v0 := by
  intro z w vals hz hw hargs
  have hb := base_ok hG hz hw
  have h5 : ∀ x ∈ ansY v0, x.tag = 5 := fun x hx => by rw [List.mem_singleton.1 hx]
  have hL : AllOk (ansY v0) := fun x hx ht => by have := h5 x hx; omega
  refine calls_fen (ro := none) (n := 0) (callsIn_of_wp_marks hf hbd trivial ?_)
  have hst : St P w fn.ntmps (baseH P) (phz P z) (setArgs 0 args noFr) (baseH P) (phz P z) { tmps := vals.toArray ++ Array.replicate (fn.ntmps - vals.toArray.size) undef, defers := [] } w := ⟨args_tr (hargs (phz P z) rfl) _ hb.hr.gl, hb.hr, EX.refl _ _⟩
  refine wpIn_mono (compY_sound (fin := finY P fn.results.toList ts) (top := c) (lab := lab) hm hrec hL h5 hb c [] (fun _ => finY P fn.results.toList ts) (fun _ => []) (fun _ => rfl) n _ _ _ _ _ hst (by rw [show (compY P fn.ntmps lab (finY P fn.results.toList ts) (jmpN P fn.ntmps lab (baseH P) r (finY P fn.results.toList ts) c n) [] c (finY P fn.results.toList ts) []).run r (setArgs 0 args noFr) (baseH P) = ansY v0 from h]; exact fun _ h => h)) ?_
  have hend : ∀ (a' : Act) (w' : World), OnY P w r fn.ntmps (baseH P) (phz P z) (ansY v0) n (fun _ => finY P fn.results.toList ts) a' w' → LeavesInM (fen none) 0 P fn a'.tmps (PurePost z w v0) a'.defers .returning w' := by
    rintro a' w' ⟨m, _, T, H', φ', hs, hx⟩
    have hx' : ∀ x ∈ (bi (nb (nbeq (lenL (marksT T)) 0)) (failR 248) <| om ((resultsB P fn.results.toList).run T H') (failR 248) fun v => match ts with
      | [t] => om (frzV P t v H') (failR 249) fun x => ansY x.1
      | ts => bi (nbeq v.tag 16) (om (frzVs P ts v.cs H') (failR 249) fun x => ansY (tupV x.1)) (failR 249)), x ∈ ansY v0 := hx
    cases hmk : nbeq (lenL (marksT T)) 0
    · rw [hmk] at hx'; exact (failR_sub hL hx').elim
    rw [hmk] at hx'
    have hx' : ∀ x ∈ (om ((resultsB P fn.results.toList).run T H') (failR 248) fun v => match ts with
      | [t] => om (frzV P t v H') (failR 249) fun x => ansY x.1
      | ts => bi (nbeq v.tag 16) (om (frzVs P ts v.cs H') (failR 249) fun x => ansY (tupV x.1)) (failR 249)), x ∈ ansY v0 := hx'
    have hm0 : marksT T = [] := by
      have := beq_true.1 hmk
      rw [lenL_eq] at this
      exact List.length_eq_zero_iff.1 this
    cases hv : (resultsB P fn.results.toList).run T H' with
    | none => rw [hv] at hx'; exact (failR_sub hL hx').elim
    | some v =>
      rw [hv, om_some] at hx'
      refine leaves_marks (H' := H') _ hs.tr.defers hs.hr (by rw [hm0]; rfl) fun φ2 w2 hex2 hr2 => ?_
      obtain ⟨val, h3, h4⟩ := results_ok (hs.tr.mono hex2.keep) hr2 hv
      refine ⟨val, h3, ?_⟩
      have hfin : ∃ φ3 H3, Frz P w w2 H' φ2 H3 φ3 ∧ FV φ3.fz v0 val := by
        by_cases ht : ∃ t, ts = [t]
        · obtain ⟨t, rfl⟩ := ht
          have hx' : ∀ x ∈ om (frzV P t v H') (failR 249) (fun x => ansY x.1), x ∈ ansY v0 := hx'
          cases hz : frzV P t v H' with
          | none => rw [hz] at hx'; exact (failR_sub hL hx').elim
          | some y =>
            obtain ⟨a1, H1⟩ := y
            rw [hz, om_some] at hx'
            have e := ansY_mem hx'
            obtain ⟨φ3, g1, g2⟩ := frzV_ok hz hr2 h4
            exact ⟨φ3, H1, g1, e ▸ g2⟩
        · have hx' : ∀ x ∈ bi (nbeq v.tag 16) (om (frzVs P ts v.cs H') (failR 249) fun x => ansY (tupV x.1)) (failR 249), x ∈ ansY v0 := by
            match ts, hx', ht with
            | [], hx', _ => exact hx'
            | [t], _, ht => exact absurd ⟨t, rfl⟩ ht
            | _ :: _ :: _, hx', _ => exact hx'
          cases h16 : nbeq v.tag 16
          · rw [h16] at hx'; exact (failR_sub hL hx').elim
          rw [h16, bi_true] at hx'
          cases hz : frzVs P ts v.cs H' with
          | none => rw [hz] at hx'; exact (failR_sub hL hx').elim
          | some y =>
            obtain ⟨a1, H1⟩ := y
            rw [hz, om_some] at hx'
            have e := ansY_mem hx'
            obtain ⟨l, rfl, hl⟩ := h4.of_tup (beq_true.1 h16)
            obtain ⟨φ3, g1, g2⟩ := frzVs_ok ts hz hr2 hl
            exact ⟨φ3, H1, g1, fun ψ e' => e ▸ .tup 0 0 0 0 a1 l (g2 ψ e')⟩
      obtain ⟨φ3, H3, g1, g2⟩ := hfin
      have hex := (hs.ex.trans hex2).trans g1.ex
      have hne : ∀ k, ¬ exB φ3 k := fun k hk => by
        unfold exB at hk
        rw [hex.keep.op] at hk
        rcases hk with hk | hk <;> have := hk.1 <;> omega
      refine ⟨φ3.fz, hex.keep.fz, fun x C hx => ?_, fun x C hx => (g1.hr.fz x C hx).1, g2, g1.hr.below.below hne⟩
      rcases g1.hr.fo x C hx with (h | h) | h
      · exact .inr h
      · exact (hne x h).elim
      · rw [hex.keep.op] at h
        obtain ⟨_, x', C', e1, e2⟩ | ⟨h0, _⟩ := h
        rotate_left
        · omega
        have e3 : x = x' := by injection e1 with _ e1; exact Int.ofNat.inj e1
        subst e3
        have e4 := hex.keep.fz x C' e2
        rw [hx] at e4; cases e4
        exact .inl e2
  intro e a' w' hq
  cases e with
  | normal => exact hend a' w' hq
  | ret => exact hend a' w' hq
  | exit i =>
    obtain ⟨m, _, T, H', φ', _, hx⟩ := hq
    exact (failR_sub hL hx).elim
  | _ => exact hq.elim
end Go.Eng
