
/- A part of the proof that the evaluator in GnC, and the driver in GnZ, answer as the model does; no conditions. -/
import Derived.Test.YtfmoohdaimlggaaGreatDoorGnMa
import Derived.Test.YtfmoohdaimlggaaGreatDoorGnL2
namespace Go.Eng
open Go.RowKit
variable {P : Program} {w0 : World} {H : Hp} {φ : Ph} {w : World}

/-! ### functions -/
/-- how one function is answered -/
def CallOk (P : Program) (f : Nat) (g : List AV → Hp → List CRes) : Prop := ∀ (w0 : World) (H : Hp) (φ : Ph) (w : World) (args : List AV) (vals : List Value),
  VRs φ args vals → HR P w0 H φ w → AllC (g args H) → Calls P f vals.toArray w (CallPost P w0 (g args H) H φ)
theorem getB_setArgs {t : Nat} (ht : t < 511) (l : List AV) : ∀ (i : Nat) (T : Fr), (getB t).run (setArgs i l T) = if i ≤ t ∧ t < i + l.length then l.getD (t - i) unkV else (getB t).run T := by
  induction l with
  | nil => intro i T; rw [if_neg (fun h => by have := h.2; simp at this; omega)]; rfl
  | cons v l ih =>
    intro i T
    show (getB t).run (setArgs (i + 1) l ((setB i).run T v)) = _
    rw [ih, getB_setB]
    simp only [List.length_cons]
    by_cases h1 : i = t
    · subst h1
      rw [if_neg (by omega), if_pos ⟨rfl, ht⟩, if_pos (by omega)]
      simp
    · rw [if_neg (c := i = t ∧ i < 511) (fun h => h1 h.1)]
      by_cases h2 : i + 1 ≤ t ∧ t < i + 1 + l.length
      · rw [if_pos h2, if_pos (by omega)]
        have : t - i = (t - (i + 1)) + 1 := by omega
        rw [this]; simp
      · rw [if_neg h2, if_neg (by omega)]
theorem marksT_setArgs (l : List AV) : ∀ (i : Nat) (T : Fr), marksT (setArgs i l T) = marksT T := by
  induction l with
  | nil => exact fun _ _ => rfl
  | cons v l ih =>
    intro i T
    show marksT (setArgs (i + 1) l ((setB i).run T v)) = _
    rw [ih, marksT_setB]
theorem args_tr {args : List AV} {vals : List Value} (h : VRs φ args vals) (N : Nat) (hgl : GL P φ) : TR P φ N (setArgs 0 args noFr) { tmps := vals.toArray ++ Array.replicate (N - vals.toArray.size) undef, defers := [] } := by
  refine ⟨by simp; omega, ?_, by rw [marksT_setArgs]; rfl, hgl⟩
  intro t
  by_cases ht : t < 511
  · rw [getB_setArgs ht]
    have hlen := h.length
    by_cases hl : t < args.length
    · rw [if_pos (by omega)]
      have ha : args[t]? = some args[t] := List.getElem?_eq_getElem hl
      obtain ⟨v, hv, hvr⟩ := h.get ha
      have e1 : args.getD (t - 0) unkV = args[t] := by simp [hl]
      have hl' : t < vals.length := by omega
      have e2 : (vals.toArray ++ Array.replicate (N - vals.toArray.size) undef).getD t undef = v := by
        have : vals[t] = v := by rw [List.getElem?_eq_getElem hl'] at hv; exact Option.some.inj hv
        rw [← this]
        simp [Array.getElem?_append, hl']
      show VR φ _ ((vals.toArray ++ Array.replicate (N - vals.toArray.size) undef).getD t undef)
      rw [e1, e2]; exact hvr
    · rw [if_neg (by omega), getB_noFr _ ht]
      have e2 : (vals.toArray ++ Array.replicate (N - vals.toArray.size) undef).getD t undef = undef := by
        have hl' : ¬ t < vals.length := by omega
        simp only [Array.getD_eq_getD_getElem?, Array.getElem?_append, List.size_toArray, if_neg hl', Array.getElem?_replicate]
        split <;> rfl
      show VR φ _ ((vals.toArray ++ Array.replicate (N - vals.toArray.size) undef).getD t undef)
      rw [e2]; exact .ud _ _ _ _ _
  · rw [getB_big (by omega)]; exact .unk _ _ _ _ _ _
section fns
variable {Nt : Nat → Option Native} {Mg : Nat → Bool} {r : Rec}
theorem body_ok (hm : P.follows .mixedOrders = true) {f : Nat} {fn : Func} {c : Code} {fc : FC} (hf : P.funcs[f]? = some fn) (hb : fn.body = some c) (h1 : fc.body = comp P fn.ntmps false f [] c normK) (h2 : fc.res = resultsB P fn.results.toList) (hrec : RecOk P r) : CallOk P f (bodyR fc r) := by
  intro w0 H φ w args vals hargs hr hall
  have hmem : ∀ x ∈ fc.body.run r (setArgs 0 args noFr) H, ∀ y ∈ bi (bi (nbeq x.tag 0) true (nbeq x.tag 2)) (om (killM (marksT x.T) x.H) (failC 59) fun H => om (fc.res.run x.T H) (failC 54) fun v => [⟨1, 0, v, H⟩]) (failC x.i), y ∈ bodyR fc r args H := fun x hx y hy => mem_fmL.2 ⟨x, hx, hy⟩
  have hgood : ∀ x ∈ fc.body.run r (setArgs 0 args noFr) H, (x.tag = 0 ∨ x.tag = 2) ∧ ∃ H' v, killM (marksT x.T) x.H = some H' ∧ fc.res.run x.T H' = some v ∧ (⟨1, 0, v, H'⟩ : CRes) ∈ bodyR fc r args H := by
    intro x hx
    have hy := hmem x hx
    cases hb : bi (nbeq x.tag 0) true (nbeq x.tag 2)
    · rw [hb] at hy; exact (failC_bad fun c hc => hall c (hy c hc)).elim
    · rw [hb, bi_true] at hy
      refine ⟨?_, ?_⟩
      · cases h0 : nbeq x.tag 0
        · rw [h0] at hb; exact .inr (beq_true.1 hb)
        · exact .inl (beq_true.1 h0)
      · cases hk : killM (marksT x.T) x.H with
        | none => rw [hk] at hy; exact (failC_bad fun c hc => hall c (hy c hc)).elim
        | some H' =>
          rw [hk, om_some] at hy
          cases hv : fc.res.run x.T H' with
          | none => rw [hv] at hy; exact (failC_bad fun c hc => hall c (hy c hc)).elim
          | some v => rw [hv] at hy; exact ⟨H', v, rfl, hv, hy _ (List.mem_singleton.2 rfl)⟩
  have hL : AllOk (fc.body.run r (setArgs 0 args noFr) H) := fun x hx ht => by rcases (hgood x hx).1 with h | h <;> omega
  refine calls_fen (ro := none) (n := 0) (callsIn_of_wp_marks hf hb trivial ?_)
  have hst : St P w0 fn.ntmps H φ (setArgs 0 args noFr) H φ { tmps := vals.toArray ++ Array.replicate (fn.ntmps - vals.toArray.size) undef, defers := [] } w := ⟨args_tr hargs _ hr.gl, hr, EX.refl H φ⟩
  refine wpIn_mono (comp_sound (ro := none) (P := P) (N := fn.ntmps) hm hrec (fun l hl => by cases hl) c [] normK _ _ H φ _ w ⟨fn, c, hf, hb, rfl, rfl⟩ hL hst (by rw [h1]; exact fun _ h => h)) ?_
  have hend : ∀ (x : Res) (φ' : Ph) (a' : Act) (w' : World), x ∈ fc.body.run r (setArgs 0 args noFr) H → St P w0 fn.ntmps H φ x.T x.H φ' a' w' → LeavesInM (fen none) 0 P fn a'.tmps (CallPost P w0 (bodyR fc r args H) H φ) a'.defers .returning w' := by
    intro x φ' a' w' hx hs
    obtain ⟨_, H', v, hk, hv, hm⟩ := hgood x hx
    rw [h2] at hv
    refine leaves_marks _ hs.tr.defers hs.hr hk fun φ2 w2 hex2 hr2 => ?_
    obtain ⟨val, h3, h4⟩ := results_ok (hs.tr.mono hex2.keep) hr2 hv
    exact ⟨val, h3, _, hm, φ2, h4, hr2, hs.ex.trans hex2⟩
  intro e a' w' hq
  cases e with
  | normal => obtain ⟨T', H', φ', g1, g2⟩ := hq; exact hend ⟨0, 0, T', H'⟩ φ' a' w' (g2 _ (List.mem_singleton.2 rfl)) g1
  | ret => obtain ⟨x, hx, _, φ', hs⟩ := hq; exact hend x φ' a' w' hx hs
  | exit i => obtain ⟨x, hx, h1, _⟩ := hq; rcases (hgood x hx).1 with h | h <;> omega
  | _ => exact hq.elim
/-- a function that the machine itself answers -/
def ExtOk (P : Program) (f : Nat) (g : List AV → Hp → List CRes) : Prop := ∀ (w0 : World) (H : Hp) (φ : Ph) (w : World) (args : List AV) (vals : List Value),
  VRs φ args vals → HR P w0 H φ w → AllC (g args H) → ∃ v w', (callFunc f vals.toArray).run P w = .ok (.value v) w' ∧ CallPost P w0 (g args H) H φ (.returned v) w'
def NatOk (P : Program) (Nt : Nat → Option Native) : Prop := (∀ f g, f < 512 → Nt f = some g → CallOk P f g) ∧ ∀ f g, Nt (f + 1000) = some g → ExtOk P f g
/-- no function that asks for the number of goroutines -/
def NoGor (P : Program) : Prop := ∀ (f : Nat) (fn : Func), P.funcs[f]? = some fn → (fn.name == "runtime.NumGoroutine") = false
theorem dsel_nd {α : Type} (t : Nd α) (f : Nat → α) (h : t = ndFun f) (j : Nat) : dsel t j = f (j % 8) := by
  subst h
  have h8 : j % 8 < 8 := Nat.mod_lt _ (by decide)
  have e1 : Nat.land j 1 = Nat.land (j % 8) 1 := by
    show j &&& 1 = (j % 8) &&& 1
    rw [show (8 : Nat) = 2 ^ 3 from rfl, ← Nat.and_two_pow_sub_one_eq_mod, Nat.and_assoc]; rfl
  have e2 : Nat.land j 2 = Nat.land (j % 8) 2 := by
    show j &&& 2 = (j % 8) &&& 2
    rw [show (8 : Nat) = 2 ^ 3 from rfl, ← Nat.and_two_pow_sub_one_eq_mod, Nat.and_assoc]; rfl
  have e4 : Nat.land j 4 = Nat.land (j % 8) 4 := by
    show j &&& 4 = (j % 8) &&& 4
    rw [show (8 : Nat) = 2 ^ 3 from rfl, ← Nat.and_two_pow_sub_one_eq_mod, Nat.and_assoc]; rfl
  unfold dsel
  rw [e1, e2, e4]
  generalize j % 8 = m at h8
  match m, h8 with
  | 0, _ => rfl
  | 1, _ => rfl
  | 2, _ => rfl
  | 3, _ => rfl
  | 4, _ => rfl
  | 5, _ => rfl
  | 6, _ => rfl
  | 7, _ => rfl
theorem fcOf_eq {f : Nat} (hf : f < 512) : fcOf P Nt Mg f = (funB P Nt Mg f).run := by
  unfold fcOf
  rw [ble_false.2 hf, bi_false]
  unfold tabF
  rw [dsel_nd _ _ rfl, dsel_nd _ _ rfl, dsel_nd _ _ rfl]
  have e : Nat.add (Nat.mul 64 (sh f 6 % 8)) (Nat.add (Nat.mul 8 (sh f 3 % 8)) (f % 8)) = f := by
    have h6 : sh f 6 = f / 64 := Nat.shiftRight_eq_div_pow f 6
    have h3 : sh f 3 = f / 8 := Nat.shiftRight_eq_div_pow f 3
    rw [h6, h3]
    show 64 * _ + (8 * _ + _) = f
    omega
  rw [e]
theorem funB_some {f : Nat} {fc : FC} (h : (funB P Nt Mg f).run = some fc) : ∃ fn c, P.funcs[f]? = some fn ∧ fn.body = some c ∧ fc.body = comp P fn.ntmps false f [] c normK ∧ fc.res = resultsB P fn.results.toList ∧ fc.nat = Nt f ∧ fc.mrg = Mg f := by
  simp only [funB] at h
  split at h
  · rename_i fn hf
    split at h
    · rename_i c hc; cases h; exact ⟨fn, c, hf, hc, rfl, rfl, rfl, rfl⟩
    · cases h
  · cases h
theorem matR_one {H : Hp} {c : CRes} {m : AV × List (Nat × AB)} (h : matR H c = some m) : c.ok = 1 := by
  have h1 : bi (nbeq c.ok 1) (om (matV c.H H.n 20 c.v []) none fun y => bi (nodupN y.2) (some y) none) none = some m := h
  cases hb : nbeq c.ok 1
  · rw [hb] at h1; cases h1
  · exact beq_true.1 hb
theorem mergeR_some {H : Hp} {l : List CRes} (h : AllC (mergeR H l)) : ∃ m : AV × List (Nat × AB), mergeR H l = [⟨1, 0, m.1, addAll m.2 H⟩] ∧ H.n + m.2.length ≤ 32766 ∧
    ∀ c ∈ l, c.ok = 1 ∧ ∃ m' : AV × List (Nat × AB), matR H c = some m' ∧ m'.1 = m.1 ∧ m'.2.length = m.2.length ∧ addAll m'.2 H = addAll m.2 H := by
  cases l with
  | nil => exact (failC_bad h).elim
  | cons x t =>
    have e : mergeR H (x :: t) = om (matR H x) (failC 81) fun m => bi (allL (fun y => om (matR H y) false fun m' => sameM m m') t) (bi (nble (Nat.add H.n (lenL m.2)) 32766) [⟨1, 0, m.1, addAll m.2 H⟩] (failC 83)) (failC 82) := rfl
    rw [e] at h ⊢
    cases hx : matR H x with
    | none => rw [hx] at h; exact (failC_bad h).elim
    | some m =>
      rw [hx, om_some] at h
      rw [om_some]
      cases ha : allL (fun y => om (matR H y) false fun m' => sameM m m') t
      · rw [ha] at h; exact (failC_bad h).elim
      · rw [ha, bi_true] at h
        rw [bi_true]
        cases hn : nble (Nat.add H.n (lenL m.2)) 32766
        · rw [hn] at h; exact (failC_bad h).elim
        · refine ⟨m, rfl, by have := ble_true.1 hn; rw [lenL_eq] at this; exact this, fun c hc => ?_⟩
          rw [allL_eq, List.all_eq_true] at ha
          cases hc with
          | head => exact ⟨matR_one hx, m, hx, rfl, rfl, rfl⟩
          | tail _ hc =>
            have h1 := ha c hc
            cases hm : matR H c with
            | none => rw [hm] at h1; cases h1
            | some m' =>
              rw [hm, om_some] at h1
              obtain ⟨h2, h3⟩ := sameM_eq h1
              exact ⟨matR_one hm, m', rfl, h2.symm, by rw [← List.length_map (·.2), ← h3, List.length_map], addAll_eq h3.symm H⟩
theorem mergeR_ok {f : Nat} {g : List AV → Hp → List CRes} (h : CallOk P f g) : CallOk P f fun l H => mergeR H (g l (lockH H)) := by
  intro w0 H φ w args vals ha hr hall
  obtain ⟨m, e, hn, hm⟩ := mergeR_some hall
  have hcalls := h w0 (lockH H) φ w args vals ha hr.lock fun c hc => (hm c hc).1
  refine Calls.mono hcalls fun e' w' he => ?_
  cases e' with
  | returned v =>
    obtain ⟨c, hc, φ', g1, g2, g3⟩ := he
    obtain ⟨_, m', h1, h2, h3, h4⟩ := hm c hc
    obtain ⟨φ'', k1, k2, k3⟩ := copy_ok hr g1 g2 g3 h1 (by omega)
    rw [h2] at k1
    rw [h4] at k2 k3
    exact ⟨⟨1, 0, m.1, addAll m.2 H⟩, by show _ ∈ mergeR H (g args (lockH H)); rw [e]; exact List.mem_singleton.2 rfl, φ'', k1, k2, k3⟩
  | panicked ch => exact he.elim
  | outgrown => exact he.elim
theorem callR_ok (hm : P.follows .mixedOrders = true) {f : Nat} {fc : FC} (hlt : f < 512) (hf : (funB P Nt Mg f).run = some fc) (hn : NatOk P Nt) (hrec : RecOk P r) : CallOk P f (callR fc r) := by
  obtain ⟨fn, c, h1, h2, h3, h4, h5, _⟩ := funB_some hf
  have hb := body_ok hm h1 h2 h3 h4 hrec
  intro w0 H φ w args vals ha hr hall
  unfold callR at hall ⊢
  cases hnat : fc.nat with
  | some g =>
    rw [hnat, om_some] at hall
    exact hn.1 f g hlt (h5 ▸ hnat) w0 H φ w args vals ha hr hall
  | none =>
    rw [hnat, om_none] at hall
    cases hm : fc.mrg
    · rw [hm] at hall; exact hb w0 H φ w args vals ha hr hall
    · rw [hm] at hall; exact mergeR_ok hb w0 H φ w args vals ha hr hall
theorem applyR_ok (hm : P.follows .mixedOrders = true) (hn : NatOk P Nt) (hg : NoGor P) (hrec : RecOk P r) : RecOk P (applyR P Nt Mg r) := by
  intro w0 H φ w av val args vals hv ha hr hall
  unfold applyR at hall ⊢
  cases h14 : nbeq av.tag 14
  case true =>
    rw [h14, bi_true] at hall
    rw [bi_true]
    obtain ⟨x, rfl, hx⟩ := hv.of_yld (beq_true.1 h14)
    obtain ⟨f, tmps, as, body, h1, h2⟩ := yieldR_ok hm hrec hx ha hr hall
    exact .inr (.inl ⟨x, f, tmps, as, body, rfl, h1, h2⟩)
  rw [h14, bi_false] at hall
  rw [bi_false]
  cases h13 : nbeq av.tag 13
  · rw [h13] at hall; exact (failC_bad hall).elim
  rw [h13, bi_true] at hall
  rw [bi_true]
  obtain ⟨first, cap, rfl, hcs, hlen⟩ := hv.of_fn (beq_true.1 h13)
  cases ht : takeL av.cs av.q with
  | none => rw [ht] at hall; exact (failC_bad hall).elim
  | some fs =>
    rw [ht, om_some] at hall
    rw [om_some]
    obtain ⟨hl, rfl⟩ := takeL_some ht
    cases hfc : fcOf P Nt Mg av.p with
    | none =>
      rw [hfc, om_none] at hall
      rw [om_none]
      unfold extR at hall ⊢
      cases h0 : nbeq (lenL av.cs) 0
      · rw [h0] at hall; exact (failC_bad hall).elim
      rw [h0, bi_true] at hall
      rw [bi_true]
      cases hlow : allL (fun a => nble a.tag 9) args
      · rw [hlow] at hall; exact (failC_bad hall).elim
      rw [hlow, bi_true] at hall
      rw [bi_true]
      cases hnt : Nt (Nat.add av.p 1000) with
      | none => rw [hnt] at hall; exact (failC_bad hall).elim
      | some g =>
        rw [hnt, om_some] at hall
        rw [om_some]
        have hcs0 : av.cs = [] := by
          have := beq_true.1 h0
          rw [lenL_eq] at this
          exact List.length_eq_zero_iff.1 this
        rw [hcs0] at hcs
        have hfc0 : first = [] ∧ cap = [] := by
          have := hcs.length
          simp only [List.length_nil, List.length_append] at this
          exact ⟨List.length_eq_zero_iff.1 (by omega), List.length_eq_zero_iff.1 (by omega)⟩
        obtain ⟨rfl, rfl⟩ := hfc0
        obtain ⟨v, w', k1, k2⟩ := hn.2 av.p g hnt w0 H φ w args vals ha hr hall
        refine .inr (.inr ⟨av.p, v, w', rfl, ?_, k1, k2⟩)
        rw [allL_eq, List.all_eq_true] at hlow
        intro u hu l e
        subst e
        have : ∀ (as : List AV) (vs : List Value), VRs φ as vs → (∀ a ∈ as, nble a.tag 9 = true) → Value.func (.yield l) #[] #[] ∈ vs → False := by
          intro as
          induction as with
          | nil => intro vs h _ hm; cases h; cases hm
          | cons a as ih =>
            intro vs h hl hm
            cases h with
            | cons g1 g2 =>
              rcases List.mem_cons.1 hm with e | hm
              · subst e
                have := ble_true.1 (hl a (by simp))
                cases g1 <;> first | (simp only at this; omega) | (simp at this)
              · exact ih _ g2 (fun a ha => hl a (by simp [ha])) hm
        exact this args vals ha (fun a ha => hlow a ha) hu
    | some fc =>
      rw [hfc, om_some] at hall
      rw [om_some]
      have hlt : av.p < 512 := by
        cases hb : nble 512 av.p
        · exact ble_false.1 hb
        · unfold fcOf at hfc; rw [hb] at hfc; cases hfc
      rw [fcOf_eq hlt] at hfc
      obtain ⟨fn, c, h1, h2, _⟩ := funB_some hfc
      have hargs : VRs φ (appL (av.cs.take av.q) (appL args (dropL av.cs av.q))) (first ++ (vals ++ cap)) := by
        rw [appL_eq, appL_eq, dropL_eq]
        have g1 := hcs.take av.q
        have g2 := hcs.drop av.q
        rw [List.take_left' hlen] at g1
        rw [List.drop_left' hlen] at g2
        exact g1.append (ha.append g2)
      refine .inl ⟨av.p, first.toArray, cap.toArray, fn, rfl, h1, by rw [h2]; rfl, hg _ _ h1, ?_⟩
      have := callR_ok hm hlt hfc hn hrec w0 H φ w _ _ hargs hr hall
      rw [show first.toArray ++ vals.toArray ++ cap.toArray = (first ++ (vals ++ cap)).toArray by simp]
      exact this
theorem evN_ok (hm : P.follows .mixedOrders = true) (hn : NatOk P Nt) (hg : NoGor P) (n : Nat) : RecOk P (evN P Nt Mg n) := by
  induction n with
  | zero => intro w0 H φ w av val args vals _ _ _ hall; exact (failC_bad hall).elim
  | succ n ih => exact applyR_ok hm hn hg ih
end fns
end Go.Eng
