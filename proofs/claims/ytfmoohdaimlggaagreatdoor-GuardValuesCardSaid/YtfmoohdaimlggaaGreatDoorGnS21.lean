
/- A part of the proof that the evaluator in GnC, and the driver in GnZ, answer as the model does; no conditions. -/
import Derived.Test.YtfmoohdaimlggaaGreatDoorGnS20
namespace Go.Eng
open Go.RowKit
variable {P : Program} {w0 : World} {H : Hp} {φ : Ph} {w : World} {N : Nat} {T : Fr} {a : Act}

/-! ### what a function returns -/
noncomputable def resSem (tmps : Array Value) (x : ResultVar) : Sem Value := match x with
  | .tmp t => pure (tmps.getD t undef)
  | .cell b t => do loadVar t (← asAddr (tmps.getD b undef))
theorem resOne_ok {x : ResultVar} {v : AV} (ht : TR P φ N T a) (hr : HR P w0 H φ w) (h : (resOneB P x).run T H = some v) : ∃ val, (resSem a.tmps x).run P w = .ok val w ∧ VR φ v val := by
  cases x with
  | tmp t => exact ⟨_, rfl, by cases h; exact ht.val t⟩
  | cell t ty =>
    simp only [resOneB] at h
    cases hd : (tyB P ty).run with
    | none => rw [hd] at h; cases h
    | some d =>
      cases hs : (szB P ty).run with
      | none => rw [hd, hs] at h; cases h
      | some sz =>
        rw [hd, om_some, hs, om_some] at h
        have hv := ht.val t
        cases hg : isAggT P ty
        · rw [hg, bi_false] at h
          have h' : bi (nbeq ((getB t).run T).tag 10) (bi (nbeq (hget H ((getB t).run T).p).kind 1) ((fun v : AV => bi (nbeq v.tag 18) none (some v)) (nthL (hget H ((getB t).run T).p).cs ((getB t).run T).q)) none) none = some v := h
          cases h10 : nbeq ((getB t).run T).tag 10
          · rw [h10] at h'; cases h'
          rw [h10, bi_true] at h'
          cases hk : nbeq (hget H ((getB t).run T).p).kind 1
          · rw [hk] at h'; cases h'
          rw [hk, bi_true] at h'
          obtain ⟨x, hval, hx⟩ := hv.of_ptr (beq_true.1 h10)
          obtain ⟨_, _, o, ho, hB⟩ := hr.blk _ _ hx
          obtain ⟨l, rest, t', rfl, hl, _, _⟩ := hB.cells (beq_true.1 hk)
          cases h18 : nbeq (nthL (hget H ((getB t).run T).p).cs ((getB t).run T).q).tag 18
          · simp only [h18, bi_false] at h'
            cases h'
            rw [nthL_eq] at h18 ⊢
            cases hcs : (hget H ((getB t).run T).p).cs[((getB t).run T).q]? with
            | none => rw [hcs] at h18; cases h18
            | some e =>
              obtain ⟨v, hv, hve⟩ := hl.get hcs
              refine ⟨v, ?_, hve⟩
              simp only [resSem, hval, asAddr, loadVar, Sem.run_bind, Sem.run_pure', run_agg hd, hg, Result.andThen_ok, run_load, Bool.false_eq_true, if_false]
              rw [cell_of ho v (get_prefix hv)]
          · simp only [h18, bi_true] at h'; cases h'
        · rw [hg, bi_true] at h
          have h' : bi (nbeq ((getB t).run T).tag 10) (bi (nbeq (hget H ((getB t).run T).p).kind 1) (om (takeL (dropL (hget H ((getB t).run T).p).cs ((getB t).run T).q) sz) none fun cs => some (aggV cs)) none) none = some v := h
          cases h10 : nbeq ((getB t).run T).tag 10
          · rw [h10] at h'; cases h'
          rw [h10, bi_true] at h'
          cases hk : nbeq (hget H ((getB t).run T).p).kind 1
          · rw [hk] at h'; cases h'
          rw [hk, bi_true] at h'
          obtain ⟨x, hval, hx⟩ := hv.of_ptr (beq_true.1 h10)
          obtain ⟨_, _, o, ho, hB⟩ := hr.blk _ _ hx
          obtain ⟨l, rest, t', rfl, hl, h1, _⟩ := hB.cells (beq_true.1 hk)
          rw [dropL_eq] at h'
          cases hcs : takeL ((hget H ((getB t).run T).p).cs.drop ((getB t).run T).q) sz with
          | none => rw [hcs] at h'; cases h'
          | some cs =>
            rw [hcs, om_some] at h'
            cases h'
            obtain ⟨hlen, rfl⟩ := takeL_some hcs
            have hll := hl.length
            have e : ((l ++ rest).drop ((getB t).run T).q).take sz = (l.drop ((getB t).run T).q).take sz := by
              rw [List.drop_append, List.take_append]
              rw [List.length_drop] at hlen
              have : sz - (l.drop ((getB t).run T).q).length = 0 := by rw [List.length_drop]; omega
              rw [this, List.take_zero, List.append_nil]
            refine ⟨_, ?_, .agg _ _ _ _ _ _ ((hl.drop ((getB t).run T).q).take sz) ?_⟩
            · simp only [resSem, hval, asAddr, loadVar, Sem.run_bind, Sem.run_pure', run_agg hd, hg, Result.andThen_ok, run_sizeOf hs, if_true]
              rw [run_loadCells_in ho (by rw [List.length_drop] at hlen; rw [List.length_append]; omega)]
              simp only [Result.andThen_ok, e]
            · intro c hc
              exact h1 c (List.mem_of_mem_drop (List.mem_of_mem_take hc))
theorem resAll_ok (ht : TR P φ N T a) (hr : HR P w0 H φ w) (l : List ResultVar) : ∀ {vs : List AV}, (resAllB P l).run T H = some vs → ∃ vals, (l.mapM (resSem a.tmps)).run P w = .ok vals w ∧ VRs φ vs vals ∧ vals.length = l.length := by
  induction l with
  | nil => intro vs h; cases h; exact ⟨[], rfl, .nil, rfl⟩
  | cons x l ih =>
    intro vs h
    have h' : om ((resOneB P x).run T H) none (fun v => om ((resAllB P l).run T H) none fun vs => some (v :: vs)) = some vs := h
    cases hx : (resOneB P x).run T H with
    | none => rw [hx] at h'; cases h'
    | some v =>
      cases hl : (resAllB P l).run T H with
      | none => rw [hx, hl] at h'; cases h'
      | some vs' =>
        rw [hx, hl] at h'
        cases h'
        obtain ⟨val, h1, h2⟩ := resOne_ok ht hr hx
        obtain ⟨vals, h3, h4, h5⟩ := ih hl
        refine ⟨val :: vals, ?_, .cons h2 h4, by simp [h5]⟩
        simp only [List.mapM_cons, Sem.run_bind, h1, Result.andThen_ok, h3, Sem.run_pure']
theorem results_eq (fn : Func) (tmps : Array Value) : results fn tmps = (do let vs ← fn.results.mapM (resSem tmps); pure (if h : vs.size = 1 then vs[0] else .tuple vs)) := rfl
theorem results_ok {fn : Func} {v : AV} (ht : TR P φ N T a) (hr : HR P w0 H φ w) (h : (resultsB P fn.results.toList).run T H = some v) : ∃ val, (results fn a.tmps).run P w = .ok val w ∧ VR φ v val := by
  rw [results_eq, Array.mapM_eq_mapM_toList]
  generalize fn.results.toList = l at h
  by_cases hl : ∃ x, l = [x]
  · obtain ⟨x, rfl⟩ := hl
    obtain ⟨val, h1, h2⟩ := resOne_ok ht hr h
    refine ⟨val, ?_, h2⟩
    simp [Sem.run_bind, h1, Result.andThen_ok, Sem.run_pure']
  · have h' : om ((resAllB P l).run T H) none (fun vs => some (tupV vs)) = some v := by
      cases l with
      | nil => exact h
      | cons x l => cases l with
        | nil => exact absurd ⟨x, rfl⟩ hl
        | cons y l => exact h
    cases ha : (resAllB P l).run T H with
    | none => rw [ha] at h'; cases h'
    | some vs =>
      rw [ha] at h'
      cases h'
      obtain ⟨vals, h1, h2, h3⟩ := resAll_ok ht hr l ha
      have hne : ¬ vals.toArray.size = 1 := by
        intro h1
        have : l.length = 1 := by rw [← h3]; simpa using h1
        exact hl (List.length_eq_one_iff.1 this)
      refine ⟨.tuple vals.toArray, ?_, .tup _ _ _ _ _ _ h2⟩
      simp only [Sem.run_bind, map_eq_pure_bind, h1, Result.andThen_ok, Sem.run_pure', dif_neg hne]
end Go.Eng
