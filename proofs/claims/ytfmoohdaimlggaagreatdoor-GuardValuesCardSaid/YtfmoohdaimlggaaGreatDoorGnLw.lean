
/- A part of the proof that the evaluator in GnC, and the driver in GnZ, answer as the model does; no conditions. -/
import Derived.Test.YtfmoohdaimlggaaGreatDoorGnT
import Derived.Test.YtfmoohdaimlggaaGreatDoorGnRd
namespace Go.Eng
open Go.RowKit
variable {P : Program} {w0 : World} {H Hb : Hp} {φ φ0 : Ph} {w : World} {N : Nat} {T : Fr} {a : Act} {lab : Lab} {r : Rec}
/-- the driver's answer is what the function returns -/
theorem pure_gen (hm : P.follows .mixedOrders = true) {f : Nat} {fn : Func} {c : Code} (hf : P.funcs[f]? = some fn) (hbd : fn.body = some c) (hrec : RecOk P r) {lab : Lab} {ts : List TypeId} {n : Nat} {args : List AV} {v0 : AV}
    {Hb : Hp} (h : startY P fn.ntmps lab Hb r (finY P fn.results.toList ts) c n args = ansY v0) {z : Nat → Option (List Value)} {w : World} {vals : List Value} (hb : BaseY P w Hb (phz P z)) (hargs : FVs z args vals) : Calls P f vals.toArray w (PurePost z w v0) := by
  have h5 : ∀ x ∈ ansY v0, x.tag = 5 := fun x hx => by rw [List.mem_singleton.1 hx]
  have hL : AllOk (ansY v0) := fun x hx ht => by have := h5 x hx; omega
  refine calls_fen (ro := none) (n := 0) (callsIn_of_wp_marks hf hbd trivial ?_)
  have hst : St P w fn.ntmps Hb (phz P z) (setArgs 0 args noFr) Hb (phz P z) { tmps := vals.toArray ++ Array.replicate (fn.ntmps - vals.toArray.size) undef, defers := [] } w := ⟨args_tr (hargs (phz P z) rfl) _ hb.hr.gl, hb.hr, EX.refl _ _⟩
  refine wpIn_mono (compY_sound (fin := finY P fn.results.toList ts) (top := c) (lab := lab) hm hrec hL h5 hb c [] (fun _ => finY P fn.results.toList ts) (fun _ => []) (fun _ => rfl) n _ _ _ _ _ hst (by rw [show (compY P fn.ntmps lab (finY P fn.results.toList ts) (jmpN P fn.ntmps lab Hb r (finY P fn.results.toList ts) c n) [] c (finY P fn.results.toList ts) []).run r (setArgs 0 args noFr) Hb = ansY v0 from h]; exact fun _ h => h)) ?_
  have hend : ∀ (a' : Act) (w' : World), OnY P w r fn.ntmps Hb (phz P z) (ansY v0) n (fun _ => finY P fn.results.toList ts) a' w' → LeavesInM (fen none) 0 P fn a'.tmps (PurePost z w v0) a'.defers .returning w' := by
    rintro a' w' ⟨m, _, T, H', φ', hs, hx⟩
    have hx' : ∀ x ∈ (bi (nb (nbeq (lenL (marksT T)) 0)) (failR 248) <| om ((resultsB P fn.results.toList).run T H') (failR 248) fun v => match ts with
      | [t] => om (frzV P t v H') (failR 249) fun x => ansY x.1
      | ts => bi (nbeq v.tag 16) (om (frzVs P ts v.cs H') (failR 249) fun x => ansY (tupV x.1)) (failR 249)), x ∈ ansY v0 := hx
    cases hmk : nbeq (lenL (marksT T)) 0
    · rw [hmk] at hx'; exact (failR_sub hL hx').elim
    rw [hmk] at hx'
    have hx' : ∀ x ∈ (om ((resultsB P fn.results.toList).run T H') (failR 248) fun v => match ts with
      | [t] => om (frzV P t v H') (failR 249) fun x => ansY x.1
      | ts => bi (nbeq v.tag 16) (om (frzVs P ts v.cs H') (failR 249) fun x => ansY (tupV x.1)) (failR 249)), x ∈ ansY v0 := hx'
    have hm0 : marksT T = [] := by
      have := beq_true.1 hmk
      rw [lenL_eq] at this
      exact List.length_eq_zero_iff.1 this
    cases hv : (resultsB P fn.results.toList).run T H' with
    | none => rw [hv] at hx'; exact (failR_sub hL hx').elim
    | some v =>
      rw [hv, om_some] at hx'
      refine leaves_marks (H' := H') _ hs.tr.defers hs.hr (by rw [hm0]; rfl) fun φ2 w2 hex2 hr2 => ?_
      obtain ⟨val, h3, h4⟩ := results_ok (hs.tr.mono hex2.keep) hr2 hv
      refine ⟨val, h3, ?_⟩
      have hfin : ∃ φ3 H3, Frz P w w2 H' φ2 H3 φ3 ∧ FV φ3.fz v0 val := by
        by_cases ht : ∃ t, ts = [t]
        · obtain ⟨t, rfl⟩ := ht
          have hx' : ∀ x ∈ om (frzV P t v H') (failR 249) (fun x => ansY x.1), x ∈ ansY v0 := hx'
          cases hz : frzV P t v H' with
          | none => rw [hz] at hx'; exact (failR_sub hL hx').elim
          | some y =>
            obtain ⟨a1, H1⟩ := y
            rw [hz, om_some] at hx'
            have e := ansY_mem hx'
            obtain ⟨φ3, g1, g2⟩ := frzV_ok hz hr2 h4
            exact ⟨φ3, H1, g1, e ▸ g2⟩
        · have hx' : ∀ x ∈ bi (nbeq v.tag 16) (om (frzVs P ts v.cs H') (failR 249) fun x => ansY (tupV x.1)) (failR 249), x ∈ ansY v0 := by
            match ts, hx', ht with
            | [], hx', _ => exact hx'
            | [t], _, ht => exact absurd ⟨t, rfl⟩ ht
            | _ :: _ :: _, hx', _ => exact hx'
          cases h16 : nbeq v.tag 16
          · rw [h16] at hx'; exact (failR_sub hL hx').elim
          rw [h16, bi_true] at hx'
          cases hz : frzVs P ts v.cs H' with
          | none => rw [hz] at hx'; exact (failR_sub hL hx').elim
          | some y =>
            obtain ⟨a1, H1⟩ := y
            rw [hz, om_some] at hx'
            have e := ansY_mem hx'
            obtain ⟨l, rfl, hl⟩ := h4.of_tup (beq_true.1 h16)
            obtain ⟨φ3, g1, g2⟩ := frzVs_ok ts hz hr2 hl
            exact ⟨φ3, H1, g1, fun ψ e' => e ▸ .tup 0 0 0 0 a1 l (g2 ψ e')⟩
      obtain ⟨φ3, H3, g1, g2⟩ := hfin
      have hex := (hs.ex.trans hex2).trans g1.ex
      have hne : ∀ k, ¬ exB φ3 k := fun k hk => by
        unfold exB at hk
        rw [hex.keep.op] at hk
        rcases hk with hk | hk <;> have := hk.1 <;> omega
      refine ⟨φ3.fz, hex.keep.fz, fun x C hx => ?_, fun x C hx => (g1.hr.fz x C hx).1, g2, g1.hr.below.below hne⟩
      rcases g1.hr.fo x C hx with (h | h) | h
      · exact .inr h
      · exact (hne x h).elim
      · rw [hex.keep.op] at h
        obtain ⟨_, x', C', e1, e2⟩ | ⟨h0, _⟩ := h
        rotate_left
        · omega
        have e3 : x = x' := by injection e1 with _ e1; exact Int.ofNat.inj e1
        subst e3
        have e4 := hex.keep.fz x C' e2
        rw [hx] at e4; cases e4
        exact .inl e2
  intro e a' w' hq
  cases e with
  | normal => exact hend a' w' hq
  | ret => exact hend a' w' hq
  | exit i =>
    obtain ⟨m, _, T, H', φ', _, hx⟩ := hq
    exact (failR_sub hL hx).elim
  | _ => exact hq.elim

/-! ### a law: the package's variables lie where the row says -/
noncomputable section
def hsetL (L : List (Nat × List AV)) : Hp := List.rec (motive := fun _ => Hp) ⟨noH.t, 0, 0⟩ (fun g _ H => hset H g.1 (cellsB g.2 1)) L
def globH (P : Program) (L : List (Nat × List AV)) : Hp := ⟨(hsetL L).t, P.globals.size, P.globals.size⟩
/-- what a list of cells looks like, by the data that the row gives -/
def dav (n : Nat) : DataW Unit → Option (List AV) := Nat.rec (motive := fun _ => DataW Unit → Option (List AV)) (fun _ => none) (fun _ ih d => match d with
  | .lit (.int k m) => some [mk1 (kCode k) ((m % (kMod (kCode k) : Int)).toNat)]
  | .lit (.string l) => some [⟨9, bytesN l, l.length, 0, 0, []⟩]
  | .lit (.bool b) => some [bV b]
  | .agg ds => List.rec (motive := fun _ => Option (List AV)) (some []) (fun x _ t => match ih x, t with | some a, some b => some (a ++ b) | _, _ => none) ds
  | _ => none) n
end
def LaidL (W : World) (L : List (Nat × List AV)) : Prop := ∀ g ∈ L, ∃ (l rest : List Value) (t : TypeId), W.heap[g.1]? = some (.cells (l ++ rest).toArray t) ∧ ∀ φ, VRs φ g.2 l
theorem hget_hsetL {L : List (Nat × List AV)} (hL : ∀ g ∈ L, g.1 < 32768) (b : Nat) (hb : b < 32768) : hget (hsetL L) b = noB ∨ ∃ g ∈ L, g.1 = b ∧ hget (hsetL L) b = cellsB g.2 1 := by
  induction L with
  | nil => exact .inl (hget_noH b)
  | cons g L ih =>
    have h := hget_hset (H := hsetL L) (i := g.1) (j := b) (hL g (by simp)) hb (cellsB g.2 1)
    have e : hget (hsetL (g :: L)) b = hget (hset (hsetL L) g.1 (cellsB g.2 1)) b := rfl
    rw [e, h]
    by_cases hg : g.1 = b
    · rw [if_pos hg]; exact .inr ⟨g, by simp, hg, rfl⟩
    · rw [if_neg hg]
      rcases ih (fun g hg => hL g (by simp [hg])) with h1 | ⟨g', h1, h2, h3⟩
      · exact .inl h1
      · exact .inr ⟨g', by simp [h1], h2, h3⟩
theorem glob_ok {L : List (Nat × List AV)} (hG : P.globals.size ≤ 32767) (hlt : ∀ g ∈ L, g.1 < P.globals.size) (hcells : ∀ g ∈ L, ∀ c ∈ g.2, okCell c = true) {W : World} (hW : LaidL W L) (hw : P.globals.size ≤ W.heap.size) {z : Nat → Option (List Value)} (hz : HoldZ z W) : BaseY P W (globH P L) (phz P z) := by
  have hφ : ∀ b x, (phz P z) b = some x → b < P.globals.size ∧ x = b := by
    intro b x h
    have h' : (if b < P.globals.size then some b else none) = some x := h
    by_cases hb : b < P.globals.size
    · rw [if_pos hb] at h'; cases h'; exact ⟨hb, rfl⟩
    · rw [if_neg hb] at h'; cases h'
  have hget : ∀ b, b < P.globals.size → hget (globH P L) b = noB ∨ ∃ g ∈ L, g.1 = b ∧ hget (globH P L) b = cellsB g.2 1 := fun b hb => hget_hsetL (fun g hg => by have := hlt g hg; omega) b (by omega)
  refine ⟨rfl, ⟨?_, ?_, hG, Nat.le_refl _, BelowX.refl _ _, ?_, ⟨?_, fun x h => by rcases h with h | h <;> have := h.1 <;> omega, fun x _ => .inr ⟨rfl, x, rfl⟩⟩, ?_, ?_, ?_⟩, fun _ _ _ h => by rcases h with h | h <;> have := h.1 <;> omega⟩
  · intro b x h
    obtain ⟨h1, rfl⟩ := hφ b x h
    refine ⟨h1, fun hl => by have hl' : P.globals.size ≤ x := hl; omega, ?_⟩
    rcases hget x h1 with e | ⟨g, hg, rfl, e⟩
    · exact ⟨W.heap[x]'(by omega), by simp, by rw [e]; exact brel_noB⟩
    · obtain ⟨l, rest, t, ho, hv⟩ := hW g hg
      refine ⟨_, ho, ?_⟩
      rw [e]
      exact ⟨fun _ => ⟨l, rest, t, rfl, hv _, hcells g hg, (fun h => by cases h), (fun h => by exact no21 h)⟩, (fun h => by cases h), (fun h => by cases h), (fun h => by have h' : 4 ≤ 1 := h; omega)⟩
  · intro b b' x h h' _ _
    rw [← (hφ b x h).2, (hφ b' x h').2]
  · intro g hg
    show (if g < P.globals.size then some g else none) = some g
    rw [if_pos hg]
  · intro t v h
    rcases h with h | h <;> have := h.1 <;> omega
  · intro x C hx
    refine ⟨hz x C hx, fun b hb hl => ?_⟩
    have hl' : P.globals.size ≤ b := hl
    have := (hφ b x hb).1; omega
  · intro b x h hk
    obtain ⟨h1, rfl⟩ := hφ b x h
    rcases hget x h1 with e | ⟨g, hg, _, e⟩ <;> rw [e] at hk <;> rcases hk with hk | hk <;> cases hk
  · intro x C hx
    exact .inr (.inl ⟨rfl, x, C, rfl, hx⟩)
theorem HR.later {P : Program} {w0 w w' : World} {H : Hp} {φ : Ph} (hr : HR P w0 H φ w) (hb : Below w.heap.size w w') : HR P w0 H φ w' := by
  refine ⟨fun b x hx => ?_, hr.inj, hr.n, hr.lim, hr.below.trans (hb.mono hr.below.size), hr.gl, hr.op, fun x C hx => ?_, hr.tl, hr.fo⟩
  · obtain ⟨h1, h2, o, h3, h4⟩ := hr.blk b x hx
    exact ⟨h1, h2, o, by rw [hb.block x (Array.getElem?_eq_some_iff.1 h3).1]; exact h3, h4⟩
  · obtain ⟨⟨t, fr, h1⟩, h2⟩ := hr.fz x C hx
    exact ⟨⟨t, fr, by rw [hb.block x (Array.getElem?_eq_some_iff.1 h1).1]; exact h1⟩, h2⟩
noncomputable def isTrueR (l : List CRes) : Bool := List.rec (motive := fun _ => Bool) true (fun c _ ih => bi (nbeq c.ok 1) (bi (nbeq c.v.tag 8) (bi (nbeq c.v.p 1) ih false) false) false) l
theorem isTrueR_mem {l : List CRes} (h : isTrueR l = true) : ∀ c ∈ l, c.ok = 1 ∧ c.v.tag = 8 ∧ c.v.p = 1 := by
  induction l with
  | nil => intro c hc; cases hc
  | cons x l ih =>
    have h' : bi (nbeq x.ok 1) (bi (nbeq x.v.tag 8) (bi (nbeq x.v.p 1) (isTrueR l) false) false) false = true := h
    obtain ⟨h1, h'⟩ := bi_and.1 h'
    obtain ⟨h2, h'⟩ := bi_and.1 h'
    obtain ⟨h3, h'⟩ := bi_and.1 h'
    intro c hc
    cases hc with
    | head => exact ⟨beq_true.1 h1, beq_true.1 h2, beq_true.1 h3⟩
    | tail _ hc => exact ih h' c hc
/-- a function of no arguments that returns true whenever the package's variables lie where they lie: as an answer to calls -/
noncomputable def laidB (L : List (Nat × List AV)) (H : Hp) : Bool := List.rec (motive := fun _ => Bool) true (fun g _ ih => bi (nbeq (hget H g.1).kind 1) (bi (eqA 20 (aggV (hget H g.1).cs) (aggV g.2)) ih false) false) L
noncomputable def livesN (L : List (Nat × List AV)) : Native := fun args H => bi (nbeq (lenL args) 0) (bi (laidB L H) [⟨1, 0, bV true, H⟩] (failC 75)) (failC 75)
theorem AllC.bi {b : Bool} {x : List CRes} {n : Nat} (h : AllC (bi b x (failC n))) : b = true ∧ AllC x := by
  cases b
  · exact (failC_bad h).elim
  · exact ⟨rfl, h⟩
theorem VR.low {φ φ' : Ph} {a : AV} {v : Value} (h : VR φ a v) (ht : a.tag < 10) : VR φ' a v := by
  cases h with
  | int c p r s cs e1 e2 => exact .int c p r s cs e1 e2
  | bool b r s cs => exact .bool b r s cs
  | str l r s cs => exact .str l r s cs
  | _ => simp at ht
theorem VRs.low {φ φ' : Ph} {l : List AV} : ∀ {vs : List Value}, VRs φ l vs → (∀ a ∈ l, a.tag < 10) → VRs φ' l vs := by
  induction l with
  | nil => intro vs h _; cases h; exact .nil
  | cons a l ih => intro vs h ht; cases h with | cons h1 h2 => exact .cons (h1.low (ht a (by simp))) (ih h2 fun b hb => ht b (by simp [hb]))
theorem laidB_ok {L : List (Nat × List AV)} (hlow : ∀ g ∈ L, ∀ c ∈ g.2, c.tag < 10) (hlt : ∀ g ∈ L, g.1 < P.globals.size) (hr : HR P w0 H φ w) (h : laidB L H = true) : LaidL w L := by
  induction L with
  | nil => intro g hg; cases hg
  | cons x L ih =>
    have h' : Eng.bi (nbeq (hget H x.1).kind 1) (Eng.bi (eqA 20 (aggV (hget H x.1).cs) (aggV x.2)) (laidB L H) false) false = true := h
    obtain ⟨h1, h'⟩ := bi_and.1 h'
    obtain ⟨h2, h'⟩ := bi_and.1 h'
    intro g hg
    rcases List.mem_cons.1 hg with rfl | hg
    · obtain ⟨_, _, o, ho, hB⟩ := hr.blk g.1 g.1 (hr.gl g.1 (hlt g (by simp)))
      obtain ⟨l, rest, t, rfl, hl, _, _⟩ := hB.cells (beq_true.1 h1)
      have hcs : (hget H g.1).cs = g.2 := congrArg AV.cs (eqA_eq _ _ _ h2)
      rw [hcs] at hl
      exact ⟨l, rest, t, ho, fun φ' => hl.low (hlow g (by simp))⟩
    · exact ih (fun g hg => hlow g (by simp [hg])) (fun g hg => hlt g (by simp [hg])) h' g hg
theorem heap_of_hr (hr : HR P w0 H φ w) : P.globals.size ≤ w.heap.size := by
  rcases Nat.eq_zero_or_pos P.globals.size with h0 | h0
  · omega
  · obtain ⟨_, _, o, h3, _⟩ := hr.blk _ _ (hr.gl (P.globals.size - 1) (by omega))
    have := (Array.getElem?_eq_some_iff.1 h3).1
    omega
theorem holdZ_none {w : World} : HoldZ (fun _ => none) w := fun x C h => by cases h
/-- a call of function f, evaluated to true -/
theorem calls_of_eval {nt : Nat → Option Native} {mg : Nat → Bool} (hm : P.follows .mixedOrders = true) (hg : NoGor P) (hnt : NatOk P nt) {L : List (Nat × List AV)} (hG : P.globals.size ≤ 32767) (hlt : ∀ g ∈ L, g.1 < P.globals.size) (hcells : ∀ g ∈ L, ∀ c ∈ g.2, okCell c = true) {f n : Nat} (hbd : ∃ fn, P.funcs[f]? = some fn ∧ fn.body.isNone = false) {W : World} (hW : LaidL W L) (hw : P.globals.size ≤ W.heap.size) (h : isTrueR (evN P nt mg n (mk1 13 f) [] (globH P L)) = true) :
    Calls P f #[] W fun e W' => e = .returned (.bool true) ∧ Below W.heap.size W W' := by
  have hm' := isTrueR_mem h
  have hb := glob_ok hG hlt hcells hW hw (z := fun _ => none) holdZ_none
  have hrec : RecOk P (evN P nt mg n) := evN_ok hm hnt hg n
  rcases hrec W (globH P L) (phz P fun _ => none) W (mk1 13 f) (.func (.func f) #[] #[]) [] [] (.fn f 0 0 0 [] [] [] .nil rfl) .nil hb.hr (fun c hc => (hm' c hc).1) with ⟨f', first, cap, fn, e1, _, _, _, hc⟩ | ⟨l, _, _, _, _, e1, _⟩ | ⟨f', v, w', e1, _, e2, _⟩
  · injection e1 with e1 e2 e3
    injection e1 with e1
    subst e1 e2 e3
    have hc' : Calls P f #[] W (CallPost P W (evN P nt mg n (mk1 13 f) [] (globH P L)) (globH P L) (phz P fun _ => none)) := by simpa using hc
    refine Calls.mono hc' fun e w' he => ?_
    cases e with
    | returned v =>
      obtain ⟨c, hcm, φ', g1, g2, g3⟩ := he
      obtain ⟨_, h2, h3⟩ := hm' c hcm
      obtain ⟨b, rfl, hp, _⟩ := g1.of_bool h2
      rw [h3] at hp
      cases b
      · cases hp
      · exact ⟨rfl, g2.below.below fun k hk => by
          unfold exB at hk
          rw [g3.keep.op] at hk
          rcases hk with hk | hk <;> have := hk.1 <;> omega⟩
    | panicked ch => exact he.elim
    | outgrown => exact he.elim
  · injection e1 with e1
    cases e1
  · injection e1 with e1
    injection e1 with e1
    subst e1
    obtain ⟨fn, k1, k2⟩ := hbd
    have hrun : (callFunc f ([] : List Value).toArray).run P W = .ok (.enter f #[]) W := by
      simp only [callFunc, program, Sem.run_bind, Sem.run, k1, hg _ _ k1, Sem.run_pure', Result.andThen_ok, k2]
      rfl
    rw [hrun] at e2
    cases e2
theorem livesN_ok {nt : Nat → Option Native} {mg : Nat → Bool} (hm : P.follows .mixedOrders = true) (hg : NoGor P) (hnt : NatOk P nt) {L : List (Nat × List AV)} (hG : P.globals.size ≤ 32767) (hlt : ∀ g ∈ L, g.1 < P.globals.size) (hlow : ∀ g ∈ L, ∀ c ∈ g.2, c.tag < 10) {f n : Nat} (hbd : ∃ fn, P.funcs[f]? = some fn ∧ fn.body.isNone = false) (h : isTrueR (evN P nt mg n (mk1 13 f) [] (globH P L)) = true) : CallOk P f (livesN L) := by
  intro w0 H φ w args vals hv hr hall
  have hall' : AllC (Eng.bi (nbeq (lenL args) 0) (Eng.bi (laidB L H) [⟨1, 0, bV true, H⟩] (failC 75)) (failC 75)) := hall
  obtain ⟨g1, hall'⟩ := hall'.bi
  obtain ⟨g2, _⟩ := hall'.bi
  have e : livesN L args H = [⟨1, 0, bV true, H⟩] := by
    show Eng.bi (nbeq (lenL args) 0) (Eng.bi (laidB L H) [⟨1, 0, bV true, H⟩] (failC 75)) (failC 75) = _
    rw [g1, g2]; rfl
  rw [e]
  have hl := beq_true.1 g1
  rw [lenL_eq] at hl
  have ha : args = [] := List.length_eq_zero_iff.1 hl
  subst ha
  cases hv
  have hok : ∀ g ∈ L, ∀ c ∈ g.2, okCell c = true := fun g hg c hc => by
    have := hlow g hg c hc
    show Eng.bi (nble c.tag 14) true _ = true
    rw [ble_true.2 (by omega)]; rfl
  refine Calls.mono (calls_of_eval hm hg hnt hG hlt hok hbd (laidB_ok hlow hlt hr g2) (heap_of_hr hr) h) fun e' w' he => ?_
  obtain ⟨rfl, hb⟩ := he
  exact ⟨⟨1, 0, bV true, H⟩, List.mem_singleton.2 rfl, φ, .bool true 0 0 [], hr.later hb, EX.refl H φ⟩
/-- the law itself -/
theorem law_ok (hm : P.follows .mixedOrders = true) {f : Nat} {fn : Func} {c : Code} {rs : List ResultVar} (hf : P.funcs[f]? = some fn) (hbd : fn.body = some c) (hN : fn.ntmps = N) (hrs : fn.results.toList = rs) (hrec : RecOk P r) {L : List (Nat × List AV)} (hG : P.globals.size ≤ 32767) (hlt : ∀ g ∈ L, g.1 < P.globals.size) (hlow : ∀ g ∈ L, ∀ c ∈ g.2, c.tag < 10) {lab : Lab} {ts : List TypeId} {n : Nat} {args : List AV}
    (h : (compY P N lab (finY P rs ts) (jmpN P N lab (globH P L) r (finY P rs ts) c n) [] c (finY P rs ts) []).run r (setArgs 0 args noFr) (globH P L) = ansY (bV true)) {W : World} {vals : List Value} (hW : LaidL W L) (hw : P.globals.size ≤ W.heap.size) (hargs : FVs (allZ W) args vals) : Calls P f vals.toArray W fun e W' => e = .returned (.bool true) ∧ Below W.heap.size W W' := by
  subst hN hrs
  have hok : ∀ g ∈ L, ∀ c ∈ g.2, okCell c = true := fun g hg c hc => by
    have := hlow g hg c hc
    show bi (nble c.tag 14) true _ = true
    rw [ble_true.2 (by omega)]; rfl
  have hb := glob_ok hG hlt hok hW hw (allZ_hold W)
  refine Calls.mono (pure_gen hm hf hbd hrec h hb hargs) fun e w' he => ?_
  cases e with
  | returned v =>
    obtain ⟨z', _, _, _, z4, z5⟩ := he
    have h1 := z4 (phz P z') rfl
    obtain ⟨b, rfl, hp, _⟩ := h1.of_bool rfl
    cases b
    · cases hp
    · exact ⟨rfl, z5⟩
  | panicked ch => exact he.elim
  | outgrown => exact he.elim
end Go.Eng
