
/- A part of the proof that the evaluator in GnC, and the driver in GnZ, answer as the model does; no conditions. -/
import Derived.Test.YtfmoohdaimlggaaGreatDoorGnS21
namespace Go.Eng
open Go.RowKit
variable {P : Program} {w0 : World} {H : Hp} {φ φ' : Ph} {w : World} {r : Rec}

theorem failC_bad {n : Nat} (h : AllC (failC n)) : False := absurd (h _ (List.mem_singleton.2 rfl)) (fun h => by cases h)
theorem brel_noB {x : Nat} {o : Obj} : BRel P φ x noB o := ⟨(fun h => by cases h), (fun h => by cases h), (fun h => by cases h), (fun h => by exact no40 h)⟩
/-! ### the marks at a function's end -/
theorem leaves_marks {fn : Func} {tmps : Array Value} {R : Ending → World → Prop} {H' : Hp} (ms : List AV) : ∀ {ds : List Deferred} {H : Hp} {φ : Ph} {w : World}, DM φ ms ds → HR P w0 H φ w → killM ms H = some H' →
    (∀ φ' w', EX H φ H' φ' → HR P w0 H' φ' w' → LeavesInM (fen none) 0 P fn tmps R [] .returning w') → LeavesInM (fen none) 0 P fn tmps R ds .returning w := by
  induction ms with
  | nil =>
    intro ds H φ w hd hr hk h
    cases hk
    rw [show ds = [] from hd]
    exact h φ w (EX.refl _ _) hr
  | cons m ms ih =>
    intro ds H φ w hd hr hk h
    obtain ⟨x, ds', rfl, hx, hd'⟩ := hd
    have hk' : bi (nble H.lim m.p) (bi (nbeq (hget H m.p).kind 4) (killM ms (hset H m.p noB)) none) none = some H' := hk
    cases hl : nble H.lim m.p
    · rw [hl] at hk'; cases hk'
    rw [hl, bi_true] at hk'
    cases h4 : nbeq (hget H m.p).kind 4
    · rw [h4] at hk'; cases hk'
    rw [h4, bi_true] at hk'
    have h4 := beq_true.1 h4
    obtain ⟨_, _, o, ho, hB⟩ := hr.blk _ _ hx
    rcases hB.ext (by omega) with ⟨_, rfl⟩ | ⟨h5, _⟩ | ⟨h5, _⟩
    · obtain ⟨φ1, hr1, hex1⟩ := set_blk (B := noB) (o' := .deferred none) hr hx (by omega) (ble_true.1 hl) ho brel_noB fun h => by omega
      refine ⟨(fun h => by cases h), .inl ⟨x, _, rfl, run_takeDeferred ho, ?_⟩⟩
      exact ih (hd'.mono hex1.keep) hr1 hk' fun φ2 w2 hex2 hr2 => h φ2 w2 (hex1.trans hex2) hr2
    · omega
    · omega

/-! ### rounds -/
theorem endR_on {b x : Nat} {y : Res} {jump : Option Code} (hr : HR P w0 y.H φ w) (hb : φ b = some x) (hall : AllC (endR b y)) (hj : (y.tag = 0 ∧ jump = none) ∨ (y.tag = 1 ∧ jump = some (.exit y.i)) ∨ (y.tag = 2 ∧ jump = some .ret)) :
    ∃ v w', (Instr.endRound x jump).run P w = .ok v w' ∧ ∃ c ∈ endR b y, ∃ φ', VR φ' c.v v ∧ HR P w0 c.H φ' w' ∧ EX y.H φ c.H φ' := by
  have e : endR b y = bi (nbeq (hget y.H b).kind 5) (bi (nble y.H.lim b)
    (bi (nbeq y.tag 0) [⟨1, 0, bV true, hset y.H b ⟨5, 0, 0, (hget y.H b).cs⟩⟩] (bi (nbeq y.tag 1) [⟨1, 0, bV false, hset y.H b ⟨5, 2, Nat.add y.i 2, (hget y.H b).cs⟩⟩] (bi (nbeq y.tag 2) [⟨1, 0, bV false, hset y.H b ⟨5, 2, 1, (hget y.H b).cs⟩⟩] (failC y.i)))) (failC 63)) (failC 63) := rfl
  rw [e] at hall ⊢
  cases h5 : nbeq (hget y.H b).kind 5
  · rw [h5] at hall; exact (failC_bad hall).elim
  rw [h5, bi_true] at hall
  rw [bi_true]
  cases hl : nble y.H.lim b
  · rw [hl] at hall; exact (failC_bad hall).elim
  rw [bi_true]
  have h5 := beq_true.1 h5
  have hl := ble_true.1 hl
  obtain ⟨rec, f, rp, fn, top, g, T, ho, hA⟩ := loop_at hr hb h5
  rcases hj with ⟨ht, rfl⟩ | ⟨ht, rfl⟩ | ⟨ht, rfl⟩
  · obtain ⟨φ', hr', hex⟩ := set_blk (B := ⟨5, 0, 0, (hget y.H b).cs⟩) (o' := .loop { rec with state := .ready, pending := none }) hr hb (by omega) hl ho (hA.brel rfl rfl rfl rfl rfl rfl rfl rfl) fun _ => rfl
    rw [beq_true.2 ht, bi_true]
    exact ⟨_, _, run_endRound none ho, _, List.mem_singleton.2 rfl, φ', .bool true 0 0 [], hr', hex⟩
  · obtain ⟨φ', hr', hex⟩ := set_blk (B := ⟨5, 2, Nat.add y.i 2, (hget y.H b).cs⟩) (o' := .loop { rec with state := .done, pending := some (.exit y.i) }) hr hb (by omega) hl ho (hA.brel rfl rfl rfl rfl rfl rfl rfl rfl) fun _ => rfl
    rw [beq_false.2 (show y.tag ≠ 0 by omega), bi_false, beq_true.2 ht, bi_true]
    exact ⟨_, _, run_endRound (some (.exit y.i)) ho, _, List.mem_singleton.2 rfl, φ', .bool false 0 0 [], hr', hex⟩
  · obtain ⟨φ', hr', hex⟩ := set_blk (B := ⟨5, 2, 1, (hget y.H b).cs⟩) (o' := .loop { rec with state := .done, pending := some .ret }) hr hb (by omega) hl ho (hA.brel rfl rfl rfl rfl rfl rfl rfl rfl) fun _ => rfl
    rw [beq_false.2 (show y.tag ≠ 0 by omega), bi_false, beq_false.2 (show y.tag ≠ 1 by omega), bi_false, beq_true.2 ht, bi_true]
    exact ⟨_, _, run_endRound (some .ret) ho, _, List.mem_singleton.2 rfl, φ', .bool false 0 0 [], hr', hex⟩
theorem endR_tag {b : Nat} {y : Res} (hall : AllC (endR b y)) : y.tag = 0 ∨ y.tag = 1 ∨ y.tag = 2 := by
  have hall' : AllC (bi (nbeq (hget y.H b).kind 5) (bi (nble y.H.lim b)
    (bi (nbeq y.tag 0) [⟨1, 0, bV true, hset y.H b ⟨5, 0, 0, (hget y.H b).cs⟩⟩] (bi (nbeq y.tag 1) [⟨1, 0, bV false, hset y.H b ⟨5, 2, Nat.add y.i 2, (hget y.H b).cs⟩⟩] (bi (nbeq y.tag 2) [⟨1, 0, bV false, hset y.H b ⟨5, 2, 1, (hget y.H b).cs⟩⟩] (failC y.i)))) (failC 63)) (failC 63)) := hall
  cases h5 : nbeq (hget y.H b).kind 5
  · rw [h5] at hall'; exact (failC_bad hall').elim
  rw [h5, bi_true] at hall'
  cases hl : nble y.H.lim b
  · rw [hl] at hall'; exact (failC_bad hall').elim
  rw [hl, bi_true] at hall'
  cases h0 : nbeq y.tag 0
  · rw [h0, bi_false] at hall'
    cases h1 : nbeq y.tag 1
    · rw [h1, bi_false] at hall'
      cases h2 : nbeq y.tag 2
      · rw [h2] at hall'; exact (failC_bad hall').elim
      · exact .inr (.inr (beq_true.1 h2))
    · exact .inr (.inl (beq_true.1 h1))
  · exact .inl (beq_true.1 h0)
theorem setPs_tr {N : Nat} (ps : List Nat) : ∀ {args : List AV} {vals : List Value} {T : Fr} {tmps : Array Value}, VRs φ args vals → (∀ p ∈ ps, p < N) → TR P φ N T { tmps := tmps, defers := [] } →
    TR P φ N (setPs ps args T) { tmps := (ps.zip vals).foldl (fun tmps ta => tmps.setIfInBounds ta.1 ta.2) tmps, defers := [] } := by
  induction ps with
  | nil => intro args vals T tmps _ _ h; exact h
  | cons p ps ih =>
    intro args vals T tmps hv hp h
    cases hv with
    | nil => exact h
    | cons h1 h2 => exact ih h2 (fun q hq => hp q (by simp [hq])) (h.put (hp p (by simp)) h1)
theorem mapP_mapI (l : List Nat) : mapP (mapI l) = l := by
  induction l with
  | nil => rfl
  | cons a l ih => exact congrArg (a :: ·) ih
theorem loopB_some {f : Nat} {rp : List Nat} {lc : LC} {fn : Func} {top : Code} {g : Operand} {ps : Array Tmp} {as body : Code} (h1 : P.funcs[f]? = some fn) (h2 : fn.body = some top) (h3 : codeAt top rp = some (.rangeFunc g ps as body)) (h : (loopB P f rp).run = some lc) :
    lc = ⟨ps.toList, comp P fn.ntmps true f (0 :: rp) as normK, comp P fn.ntmps true f (1 :: rp) body normK⟩ ∧ ∀ p ∈ ps.toList, p < fn.ntmps := by
  simp only [loopB, h1, h2, h3] at h
  cases hb : allL (fun p => nble (Nat.succ p) fn.ntmps) ps.toList
  · rw [hb] at h; cases h
  · rw [hb, bi_true] at h
    cases h
    refine ⟨rfl, fun p hp => ?_⟩
    rw [allL_eq, List.all_eq_true] at hb
    exact ble_true.1 (hb p hp)
theorem begR_on (hm : P.follows .mixedOrders = true) (hrec : RecOk P r) {N f b x : Nat} {rp : List Nat} {body : Code} {H0 : Hp} {φ0 : Ph} {y : Res} {a : Act} (hat : At P N f rp body) (hro : InRo (some x) H0 φ0) (hb : φ0 b = some x)
    (hs : St P w0 N H0 φ0 y.T y.H φ a w) (hall : AllC (begR r (comp P N true f rp body normK) b y)) :
    ∃ w₂, (Instr.beginRound x).run P w = .ok () w₂ ∧ body.wpIn (fen (some x)) 0 P (roundPost P x (CallPost P w0 (begR r (comp P N true f rp body normK) b y) H0 φ0)) a w₂ := by
  have e : begR r (comp P N true f rp body normK) b y = bi (nbeq y.tag 0) (bi (nbeq (hget y.H b).kind 5) (bi (nbeq (hget y.H b).t 0) (bi (nble y.H.lim b)
    (fmL ((comp P N true f rp body normK).run r y.T (hset y.H b ⟨5, 1, (hget y.H b).e, (hget y.H b).cs⟩)) fun y => endR b y) (failC 64)) (failC 64)) (failC 64)) (failC y.i) := rfl
  rw [e] at hall ⊢
  cases h0 : nbeq y.tag 0
  · rw [h0] at hall; exact (failC_bad hall).elim
  rw [h0, bi_true] at hall
  rw [bi_true]
  cases h5 : nbeq (hget y.H b).kind 5
  · rw [h5] at hall; exact (failC_bad hall).elim
  rw [h5, bi_true] at hall
  rw [bi_true]
  cases ht : nbeq (hget y.H b).t 0
  · rw [ht] at hall; exact (failC_bad hall).elim
  rw [ht, bi_true] at hall
  rw [bi_true]
  cases hl : nble y.H.lim b
  · rw [hl] at hall; exact (failC_bad hall).elim
  rw [hl, bi_true] at hall
  rw [bi_true]
  have hb' := (hs.ex.keep _ _ hb).1
  obtain ⟨rec, f', rp', fn, top, g, T, ho, hA⟩ := loop_at hs.hr hb' (beq_true.1 h5)
  have hready : rec.state = .ready := by rw [hA.st, beq_true.1 ht]; rfl
  obtain ⟨φ2, hr2, hex2⟩ := set_blk (B := ⟨5, 1, (hget y.H b).e, (hget y.H b).cs⟩) (o' := .loop { rec with state := .busy }) hs.hr hb' (by have := beq_true.1 h5; omega) (ble_true.1 hl) ho (hA.brel rfl rfl rfl rfl rfl rfl rfl hA.pend) (fun _ => rfl) (by have := beq_true.1 h5; omega)
  refine ⟨_, run_beginRound ho hready, ?_⟩
  generalize hH2 : hset y.H b ⟨5, 1, (hget y.H b).e, (hget y.H b).cs⟩ = H2 at hr2 hex2 hall
  have hs2 : St P w0 N H0 φ0 y.T H2 φ2 a (w.putObj x (.loop { rec with state := .busy })) := ⟨hs.tr.mono hex2.keep, hr2, hs.ex.trans hex2⟩
  have hend : ∀ z ∈ (comp P N true f rp body normK).run r y.T H2, AllC (endR b z) := fun z hz c hc => hall c (mem_fmL.2 ⟨z, hz, hc⟩)
  have hok : AllOk ((comp P N true f rp body normK).run r y.T H2) := fun z hz h3 => by rcases endR_tag (hend z hz) with h | h | h <;> omega
  have hfin : ∀ (z : Res) (jump : Option Code) (a' : Act) (w' : World) (φ' : Ph), z ∈ (comp P N true f rp body normK).run r y.T H2 → St P w0 N H0 φ0 z.T z.H φ' a' w' → ((z.tag = 0 ∧ jump = none) ∨ (z.tag = 1 ∧ jump = some (.exit z.i)) ∨ (z.tag = 2 ∧ jump = some .ret)) →
      ∃ v w'', (Instr.endRound x jump).run P w' = .ok v w'' ∧ CallPost P w0 (fmL ((comp P N true f rp body normK).run r y.T H2) fun y => endR b y) H0 φ0 (.returned v) w'' := by
    intro z jump a' w' φ' hz hs' hj
    obtain ⟨v, w'', g1, c, hc, φ'', g2, g3, g4⟩ := endR_on hs'.hr (hs'.ex.keep _ _ hb).1 (hend z hz) hj
    exact ⟨v, w'', g1, c, mem_fmL.2 ⟨z, hz, hc⟩, φ'', g2, g3, hs'.ex.trans g4⟩
  refine wpIn_mono (comp_sound (ro := some x) hm hrec hro body rp normK _ _ _ _ _ _ hat hok hs2 fun _ h => h) ?_
  intro ex a' w' hq
  cases ex with
  | normal => obtain ⟨T', H', φ', g1, g2⟩ := hq; exact hfin ⟨0, 0, T', H'⟩ none a' w' φ' (g2 _ (List.mem_singleton.2 rfl)) g1 (.inl ⟨rfl, rfl⟩)
  | ret => obtain ⟨z, hz, h1, φ', hs'⟩ := hq; exact hfin z (some .ret) a' w' φ' hz hs' (.inr (.inr ⟨h1, rfl⟩))
  | exit i => obtain ⟨z, hz, h1, rfl, φ', hs'⟩ := hq; exact hfin z (some (.exit z.i)) a' w' φ' hz hs' (.inr (.inl ⟨h1, rfl⟩))
  | goto l => exact hq.elim
  | panic ch => exact hq.elim
  | outgrown => exact hq.elim
theorem begR_tag {body : BR} {b : Nat} {y : Res} (hall : AllC (begR r body b y)) : y.tag = 0 := by
  have e : begR r body b y = bi (nbeq y.tag 0) (bi (nbeq (hget y.H b).kind 5) (bi (nbeq (hget y.H b).t 0) (bi (nble y.H.lim b)
    (fmL (body.run r y.T (hset y.H b ⟨5, 1, (hget y.H b).e, (hget y.H b).cs⟩)) fun y => endR b y) (failC 64)) (failC 64)) (failC 64)) (failC y.i) := rfl
  rw [e] at hall
  cases h0 : nbeq y.tag 0
  · rw [h0] at hall; exact (failC_bad hall).elim
  · exact beq_true.1 h0
theorem yieldR_ok (hm : P.follows .mixedOrders = true) (hrec : RecOk P r) {b x : Nat} {args : List AV} {vals : List Value} (hb : φ b = some x) (ha : VRs φ args vals) (hr : HR P w0 H φ w) (hall : AllC (yieldR P r b args H)) :
    ∃ f tmps assign body, (Instr.yield x vals.toArray).run P w = .ok (.round x f tmps assign body) w ∧ ∀ ro, RoundIn (fen ro) 0 P x f tmps assign body w (CallPost P w0 (yieldR P r b args H) H φ) := by
  have e : yieldR P r b args H = bi (nbeq (hget H b).kind 5) (om (loopB P (nthL (hget H b).cs 0).p (mapP (nthL (hget H b).cs 0).cs)).run (failC 65) fun lc => bi (nbeq (lenL args) (lenL lc.ps))
    (fmL (lc.as.run r (setPs lc.ps args (decF (nthL (hget H b).cs 1))) H) fun x => begR r lc.body b x) (failC 65)) (failC 65) := rfl
  rw [e] at hall ⊢
  cases h5 : nbeq (hget H b).kind 5
  · rw [h5] at hall; exact (failC_bad hall).elim
  rw [h5, bi_true] at hall
  rw [bi_true]
  have h5 := beq_true.1 h5
  obtain ⟨rec, f, rp, fn, top, g, T, ho, hA⟩ := loop_at hr hb h5
  rw [hA.cs] at hall ⊢
  have e0 : nthL [pathV f rp, encF T] 0 = pathV f rp := rfl
  have e1 : nthL [pathV f rp, encF T] 1 = encF T := rfl
  have e2 : (pathV f rp).p = f := rfl
  have e3 : (pathV f rp).cs = mapI rp := rfl
  rw [e0, e1, e2, e3, mapP_mapI, decF_encF] at hall ⊢
  cases hlc : (loopB P f rp).run with
  | none => rw [hlc] at hall; exact (failC_bad hall).elim
  | some lc =>
    rw [hlc, om_some] at hall
    rw [om_some]
    obtain ⟨rfl, hps⟩ := loopB_some hA.hfn hA.htop hA.code hlc
    cases hlen : nbeq (lenL args) (lenL rec.params.toList)
    · rw [hlen] at hall; exact (failC_bad hall).elim
    rw [hlen, bi_true] at hall
    rw [bi_true]
    have hlen := beq_true.1 hlen
    rw [lenL_eq, lenL_eq, ha.length] at hlen
    have hsize : vals.toArray.size = rec.params.size := by simpa using hlen
    refine ⟨rec.fn, _, rec.assign, rec.body, run_yield ho hsize, fun ro => roundIn_of_wpIn (F := fen ro) trivial ?_⟩
    have hfold : (rec.params.zip vals.toArray).foldl (fun tmps (ta : Tmp × Value) => tmps.setIfInBounds ta.1 ta.2) rec.tmps = (rec.params.toList.zip vals).foldl (fun tmps ta => tmps.setIfInBounds ta.1 ta.2) rec.tmps := by
      rw [← Array.foldl_toList, Array.toList_zip]
    have htr := setPs_tr (N := fn.ntmps) rec.params.toList ha hps ⟨hA.size, hA.val, by rw [hA.mks]; rfl, hr.gl⟩
    rw [← hfold] at htr
    have hro : InRo (some x) H φ := fun l hl => by
      cases hl
      have h1 := (hr.blk b x hb).1
      have h2 := hr.n
      exact ⟨b, hb, h1, by omega, h5⟩
    have hat : At P fn.ntmps f rp (.rangeFunc g rec.params rec.assign rec.body) := ⟨fn, top, hA.hfn, hA.htop, rfl, hA.code⟩
    have hbeg : ∀ y ∈ (comp P fn.ntmps true f (0 :: rp) rec.assign normK).run r (setPs rec.params.toList args T) H, AllC (begR r (comp P fn.ntmps true f (1 :: rp) rec.body normK) b y) := fun y hy c hc => hall c (mem_fmL.2 ⟨y, hy, hc⟩)
    have hok : AllOk ((comp P fn.ntmps true f (0 :: rp) rec.assign normK).run r (setPs rec.params.toList args T) H) := fun y hy h3 => by have := begR_tag (hbeg y hy); omega
    refine wpIn_mono (comp_sound (ro := some x) (w0 := w0) (H0 := H) (φ0 := φ) hm hrec hro rec.assign (0 :: rp) normK _ _ H φ _ w (hat.kid rfl) hok ⟨htr, hr, EX.refl H φ⟩ fun _ h => h) ?_
    intro ex a' w' hq
    cases ex with
    | normal =>
      obtain ⟨T', H', φ', g1, g2⟩ := hq
      have hy := g2 _ (List.mem_singleton.2 rfl)
      obtain ⟨w₂, k1, k2⟩ := begR_on (y := ⟨0, 0, T', H'⟩) hm hrec (hat.kid rfl) hro hb g1 (hbeg _ hy)
      refine ⟨w₂, k1, wpIn_mono k2 ?_⟩
      have hcp : ∀ e w, CallPost P w0 (begR r (comp P fn.ntmps true f (1 :: rp) rec.body normK) b ⟨0, 0, T', H'⟩) H φ e w →
          CallPost P w0 (fmL ((comp P fn.ntmps true f (0 :: rp) rec.assign normK).run r (setPs rec.params.toList args T) H) fun x => begR r (comp P fn.ntmps true f (1 :: rp) rec.body normK) b x) H φ e w := by
        intro e w he
        cases e with
        | returned v => obtain ⟨c, hc, h⟩ := he; exact ⟨c, mem_fmL.2 ⟨_, hy, hc⟩, h⟩
        | panicked ch => exact he.elim
        | outgrown => exact he.elim
      intro ex2 a2 w2 hq2
      cases ex2 with
      | normal => obtain ⟨v, w', h1, h2⟩ := hq2; exact ⟨v, w', h1, hcp _ _ h2⟩
      | ret => obtain ⟨v, w', h1, h2⟩ := hq2; exact ⟨v, w', h1, hcp _ _ h2⟩
      | exit i => obtain ⟨v, w', h1, h2⟩ := hq2; exact ⟨v, w', h1, hcp _ _ h2⟩
      | goto l => obtain ⟨v, w', h1, h2⟩ := hq2; exact ⟨v, w', h1, hcp _ _ h2⟩
      | panic ch => exact hq2.elim
      | outgrown => exact hq2.elim
    | ret => obtain ⟨y, hy, h1, _⟩ := hq; have := begR_tag (hbeg y hy); omega
    | exit i => obtain ⟨y, hy, h1, _⟩ := hq; have := begR_tag (hbeg y hy); omega
    | goto l => exact hq.elim
    | panic ch => exact hq.elim
    | outgrown => exact hq.elim
end Go.Eng
