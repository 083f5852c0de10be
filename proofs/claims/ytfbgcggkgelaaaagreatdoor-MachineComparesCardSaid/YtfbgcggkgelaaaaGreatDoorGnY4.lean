/- A part of the proof that the evaluator in GnC, and the driver in GnZ, answer as the model does; no conditions. -/
import Derived.Test.YtfbgcggkgelaaaaGreatDoorGnS12
namespace Go.Eng
open Go.RowKit
variable {P : Program} {w0 : World} {H : Hp} {φ : Ph} {c : Kont} {w : World} {z : Nat → Option (List Value)}

theorem elemV_cells {agg : Bool} {l : List AV} (h1 : ∀ c ∈ l, okCell c = true) (h2 : agg = false → l.length = 1) : cellsOk (elemV agg l) = true ∧ cellsOf (elemV agg l) = l := by
  cases agg
  · have := h2 rfl
    match l, this with
    | [a], _ =>
      have ha := h1 a (by simp)
      show cellsOk a = true ∧ cellsOf a = [a]
      refine ⟨by unfold cellsOk; rw [ha]; rfl, ?_⟩
      unfold cellsOf
      rw [show nbeq a.tag 15 = false from beq_false.2 (by rcases okCell_tag ha with h | h | h <;> omega)]; rfl
  · exact ⟨rfl, rfl⟩
theorem flatL_set {sz : Nat} {x : AV} (hx : (cellsOf x).length = sz) : ∀ {l : List AV}, (∀ c ∈ l, cellsOk c = true ∧ (cellsOf c).length = sz) → ∀ {i : Nat}, i < l.length → flatL (l.set i x) = (flatL l).take (i * sz) ++ cellsOf x ++ (flatL l).drop (i * sz + sz) := by
  intro l
  induction l with
  | nil => intro _ i h; simp at h
  | cons a l ih =>
    intro h i hi
    have ha := (h a (by simp)).2
    cases i with
    | zero =>
      rw [List.set_cons_zero, flatL_cons, flatL_cons, Nat.zero_mul, Nat.zero_add, List.take_zero, ← ha, List.drop_left' rfl]; rfl
    | succ i =>
      have e1 : (i + 1) * sz = (cellsOf a).length + i * sz := by rw [ha, Nat.add_mul]; omega
      have t1 : ∀ (n : Nat) (Y : List AV), (cellsOf a ++ Y).take ((cellsOf a).length + n) = cellsOf a ++ Y.take n := fun n Y => by
        rw [List.take_append, List.take_of_length_le (Nat.le_add_right _ _), Nat.add_sub_cancel_left]
      have t2 : ∀ (n : Nat) (Y : List AV), (cellsOf a ++ Y).drop ((cellsOf a).length + n) = Y.drop n := fun n Y => by
        rw [← List.drop_drop, List.drop_left' rfl]
      rw [List.set_cons_succ, flatL_cons, flatL_cons, ih (fun c hc => h c (by simp [hc])) (by simpa using hi), e1, t1, Nat.add_assoc, t2]
      simp only [List.append_assoc]
theorem storeY_out {t : TypeId} {sz : Nat} {a b : AV} {va vb : Value} (hs : (szB P t).run = some sz) (ha : VR φ a va) (hb : VR φ b vb) (hr : HR P w0 H φ w) (hok : AllOk ((storeY (isAggT P t) sz (ksB P t).run).run a b H c)) :
    Out P w0 (fun v w' => (Instr.storeAt t va vb).run P w = .ok () w' ∧ v = undef) H φ ((storeY (isAggT P t) sz (ksB P t).run).run a b H c) c := by
  refine Out.om hok fun ks hks hok => Out.bi2 hok (fun _ hok => (failR_bad hok).elim) fun hgg hok => Out.bi hok fun h27 hok => Out.bi hok fun hq hok => Out.bi hok fun hst hok => Out.bi hok fun hk hok => Out.bi hok fun ht hok => Out.bi hok fun hlk hok => Out.bi hok fun hlx hok => Out.bi hok fun htg hok => ?_
  have hagg : isAggT P t = false → sz = 1 := by
    intro h
    rw [h, bi_false, nb_eq] at hgg
    exact beq_true.1 (by simpa using hgg)
  obtain ⟨x, hx, hrl, rfl⟩ := ha.of_optr (beq_true.1 h27)
  have hk' := beq_true.1 hk
  have ht' := beq_true.1 ht
  have hst' := beq_true.1 hst
  have hq' := beq_true.1 hq
  obtain ⟨l, rest, ty, fr, ho, g1, g2, g3, g4, g5, g6, g7⟩ := hr.list hx (by unfold isL; rw [hk]; rfl)
  have := g3 hk'; subst this
  have hlk' := beq_true.1 hlk
  rw [lenL_eq] at hlk'
  have hlx' := beq_true.1 hlx
  rw [lenL_eq] at hlx'
  rw [ht'] at g2 g4 g6
  have hbok : cellsOk b = true := by
    by_cases h15 : b.tag = 15
    · unfold cellsOk; rw [h15]; cases okCell b <;> rfl
    · have ec : cellsOf b = [b] := by
        unfold cellsOf; rw [beq_false.2 h15]; rfl
      rw [ec] at htg hlx'
      cases ks with
      | nil => simp at hlk'; omega
      | cons k ks =>
        have h1 : bi (tagIs k b) (tagsAt ks [b] 1) false = true := htg
        cases h2 : tagIs k b
        · rw [h2] at h1; cases h1
        have hk9 := ksB_ok hks k (by simp)
        unfold cellsOk okCell
        rcases tagIs_ok h2 with ⟨h3, h4⟩ | ⟨h3, h4, _⟩
        · rw [ble_true.2 (show b.tag ≤ 14 by omega)]; rfl
        · rw [h4]; rfl
  obtain ⟨hc1, _⟩ := hb.cells hbok
  obtain ⟨f1, f2, f3, f4⟩ := tagsAt_vr ks (ksB_ok hks) hc1 0 htg
  have hvl : vb.cells.toList.length = sz := by rw [← hc1.length]; exact hlx'
  rw [List.drop_zero, List.take_of_length_le (by omega)] at f1
  obtain ⟨e1, e2⟩ := elemV_cells (agg := isAggT P t) f4 (fun h => by rw [f3, hlk', hagg h])
  have hlt : a.r < (hget H a.p).cs.length := by omega
  have hl := g1.length
  rw [flatL_len g2] at hl
  have hle : (a.r + 1) * sz ≤ (hget H a.p).cs.length * sz := Nat.mul_le_mul_right _ hlt
  rw [Nat.add_mul, Nat.one_mul] at hle
  have hone : ∀ v ∈ vb.cells.toList, v.oneCell' = true := by
    intro v hv
    obtain ⟨i, hi⟩ := List.mem_iff_getElem?.1 hv
    have hi' : i < (canAt ks (cellsOf b) 0).length := by rw [f1.length]; exact (List.getElem?_eq_some_iff.1 hi).1
    obtain ⟨v', hv', hvr⟩ := f1.get (List.getElem?_eq_getElem hi')
    rw [hi] at hv'; cases hv'
    exact (hvr.vr.one (f4 _ (List.getElem_mem hi'))).1
  have hst2 := run_storeCells_at (P := P) x (a.r * a.s + a.q) ty vb.cells.toList 0 (l ++ rest).toArray w ho (by rw [List.size_toArray, List.length_append, hst', hq']; omega) hone
  have hoff : a.r * a.s + a.q = a.r * sz := by rw [hst', hq']; rfl
  refine Out.set (x := x) (o' := .cells (l.take (a.r * sz) ++ vb.cells.toList ++ l.drop (a.r * sz + sz) ++ rest).toArray ty)
    (w' := w.setRow x (((l ++ rest).toArray).toList.take (a.r * a.s + a.q + 0) ++ vb.cells.toList ++ ((l ++ rest).toArray).toList.drop (a.r * a.s + a.q + 0 + vb.cells.toList.length)).toArray) hr hx (by omega) ?_ (.ud _ _ _ _ _) ⟨?_, rfl⟩ ?_ ?_ (by simp [World.setRow]) rfl rfl rfl hok (fun h => by omega) (by omega) ?_
  · refine ⟨(fun h => by cases h), (fun h => by cases h), (fun h => by cases h), fun _ => .inr (.inr ⟨.inl rfl, l.take (a.r * sz) ++ vb.cells.toList ++ l.drop (a.r * sz + sz), rest, ty, (0, 0), rfl, ?_, ?_, fun _ => rfl, ?_, ?_, g6⟩)⟩
    · show FZs φ.fz (flatL (putN _ _ _)) _
      rw [putN_eq, flatL_set (sz := sz) (by rw [e2, f3, hlk']) g2 hlt, e2]
      exact ((g1.take _).append f1).append (g1.drop _)
    · intro c hc
      have hc' : c ∈ putN (elemV (isAggT P t) (canAt ks (cellsOf b) 0)) a.r (hget H a.p).cs := hc
      rw [putN_eq] at hc'
      rcases List.mem_or_eq_of_mem_set hc' with h | h
      · exact g2 c h
      · rw [h]; exact ⟨e1, by rw [e2, f3, hlk']⟩
    · show _ = φ.k x * sz
      rw [← g4]
      simp only [List.length_append, List.length_take, List.length_drop, hvl]
      omega
    · show (putN _ _ _).length < 2 ^ 40
      rw [putN_eq, List.length_set]; exact g5
  · simp only [Instr.storeAt, Instr.sureAddr, storeVar, Sem.run_bind, Sem.run_pure', Result.andThen_ok, run_sizeOf hs]
    rw [if_neg (by simpa using hvl)]
    exact hst2
  · rw [setRow_heap w x _ _ ty (0, 0) ho]
    congr 3
    rw [hoff, hvl]
    simp only [Nat.add_zero]
    rw [List.take_append_of_le_length (by omega), List.drop_append_of_le_length (by omega)]
    simp only [List.append_assoc]
  · intro k hk
    simp [World.setRow, Array.getElem?_modify, Ne.symm hk]
  · intro _
    show (putN _ _ _).length = _
    rw [putN_eq, List.length_set]; exact g7

theorem ix3 {a : AV} {n : Nat} (h3 : a.tag = 3) (h : a.p ≤ n) (hn : n < 2 ^ 63) : ixOk a n = true := by
  unfold ixOk
  rw [h3, show nble 3 7 = true from rfl, bi_true, ble_true.2 h, bi_true, nb_eq]
  have e : kHalf 3 = 2 ^ 63 := by decide
  have : isNeg 3 a.p = false := ble_false.2 (by rw [e]; omega)
  rw [this]; rfl
/-- a part of what nobody writes to -/
theorem FSl.part {a : AV} {v : Value} (h : FSl z a v) {l hi s : Nat} (h1 : l ≤ hi) (h2 : hi ≤ a.cs.length) (hs : s = 0 ∨ s = 1) :
    (v = .slice none 0 0 ∧ a.p = 0 ∧ a.cs = [] ∧ FZ z ⟨24, a.p, 0, a.r, s, (a.cs.take hi).drop l⟩ (.slice none 0 0)) ∨
    ∃ ad cap, v = .slice (some ad) a.cs.length cap ∧ a.p = 1 ∧ a.cs.length ≤ cap ∧ a.cs.length < 2 ^ 63 ∧ ∀ cap' ad', (s = 1 → cap' = hi - l) → hi - l ≤ cap' → (l < hi → ad' = ad.add (l * a.r)) → FZ z ⟨24, a.p, 0, a.r, s, (a.cs.take hi).drop l⟩ (.slice (some ad') (hi - l) cap') := by
  have hlen : ((a.cs.take hi).drop l).length = hi - l := by rw [List.length_drop, List.length_take]; omega
  have hnil : hi - l = 0 → (a.cs.take hi).drop l = [] := fun h => List.length_eq_zero_iff.1 (by rw [hlen]; exact h)
  have hemp : ∀ cap' ad', a.p = 1 → (s = 1 → cap' = hi - l) → hi - l = 0 → FZ z ⟨24, a.p, 0, a.r, s, (a.cs.take hi).drop l⟩ (.slice (some ad') (hi - l) cap') := by
    intro cap' ad' hp h3 h0
    rw [hnil h0, h0, hp]
    rcases hs with rfl | rfl
    · exact .empty 0 _ ad' cap'
    · rw [h3 rfl, h0]; exact .done 0 _ 1 ad'
  cases h with
  | nil g1 g2 =>
    refine .inl ⟨rfl, g1, g2, ?_⟩
    rw [g1, g2]
    simp only [List.take_nil, List.drop_nil]
    exact .nils 0 _ s
  | empty ad cap g1 g2 g3 =>
    refine .inr ⟨ad, cap, by rw [g2]; rfl, g1, by rw [g2]; exact Nat.zero_le _, by rw [g2]; decide, fun cap' ad' h3 _ _ => hemp cap' ad' g1 h3 ?_⟩
    rw [g2] at h2
    simp at h2; omega
  | sl x off cap C ls g1 g2 g3 g4 g5 g6 g7 g8 g9 =>
    refine .inr ⟨_, cap, rfl, g1, g5, g7, fun cap' ad' h3 h4 h5 => ?_⟩
    by_cases h0 : hi - l = 0
    · exact hemp cap' ad' g1 h3 h0
    · rw [h5 (by omega), Addr.add_mid, g1, ← hlen]
      have hsub : ∀ c ∈ (a.cs.take hi).drop l, cellsOk c = true ∧ (cellsOf c).length = a.r := fun c hc => g4 c (List.mem_of_mem_take (List.mem_of_mem_drop hc))
      have hfz : FZs z (flatL ((a.cs.take hi).drop l)) ((ls.take (hi * a.r)).drop (l * a.r)) := by
        have := (g3.take (hi * a.r)).drop (l * a.r)
        rwa [flatL_take g4, flatL_drop (fun c hc => g4 c (List.mem_of_mem_take hc))] at this
      refine .sl 0 a.r s _ x (off + l * a.r) cap' C _ g2 hfz hsub (by rw [hlen]; exact h4) (fun e => by rw [hlen]; exact h3 e) (by rw [hlen]; omega) ?_ (by rw [hlen]; omega)
      have hll : ls.length = a.cs.length * a.r := by rw [← g3.length, flatL_len g4]
      have hm : hi * a.r ≤ a.cs.length * a.r := Nat.mul_le_mul_right _ h2
      have hml : l * a.r ≤ hi * a.r := Nat.mul_le_mul_right _ h1
      have e2 : ((ls.take (hi * a.r)).drop (l * a.r)).length = hi * a.r - l * a.r := by rw [List.length_drop, List.length_take]; omega
      rw [e2]
      conv => rhs; rw [← g8]
      rw [List.take_take, List.drop_take, List.drop_drop, Nat.min_eq_left (by omega)]
theorem cutY_out {t e : TypeId} {sz : Nat} {hasHi : Bool} {lo hi : Option Value} {x l h : AV} {vx : Value} (ht : (tyB P t).run = some (.slice e)) (hs : (szB P e).run = some sz) (hx : VR φ x vx) (hlo : LoOK φ lo l) (hhi : HiOK φ hi hasHi h) (hr : HR P w0 H φ w)
    (hok : AllOk ((cutY sz hasHi).run x l h H c)) : Out P w0 (fun v w' => (Instr.sliceAt t vx lo hi none).run P w = .ok v w') H φ ((cutY sz hasHi).run x l h H c) c := by
  refine Out.bi hok fun g3 hok => Out.bi2 hok (fun g24 hok => Out.bi hok fun gh hok => Out.bi hok fun g1 hok => Out.bi hok fun g2 _ => ?_) fun _ hok => Out.bi hok fun g25 hok => Out.bi hok fun gL hok => Out.bi hok fun gh hok => Out.bi hok fun g0 hok => Out.bi hok fun g1 hok => ?_
  · obtain ⟨g24, gsz⟩ := bi_and.1 g24
    have hsz := beq_true.1 gsz
    have i1 : (bi hasHi h (mk1 3 (lenL x.cs))).p ≤ x.cs.length := by have := ble_true.1 g1; rw [lenL_eq] at this ⊢; exact this
    have i2 := ble_true.1 g2
    rw [dropL_eq, takeN_eq]
    rcases ((hx.of_frz (beq_true.1 g24)).of_sl (beq_true.1 g24)).part i2 i1 (.inl rfl) with ⟨rfl, hp, hcs, hf⟩ | ⟨ad, cap, rfl, hp, hcap, h63, hf⟩
    · have hx0 : x.cs.length = 0 := by rw [hcs]; rfl
      have h0 : (bi hasHi h (mk1 3 (lenL x.cs))).p = 0 := by omega
      have l0 : l.p = 0 := by omega
      have hbd := run_bounds (P := P) (w := w) (isSlice := true) (len := 0) (cap := 0) (top := 0) hlo hhi (Nat.le_refl _) (by
        have e0 : lenL x.cs = 0 := by rw [hcs]; rfl
        rw [e0] at gh h0
        exact ix3 (beq_true.1 gh) (by omega) (by omega)) (ix3 (beq_true.1 g3) (by omega) (by
        have e0 : lenL x.cs = 0 := by rw [hcs]; rfl
        rw [e0] at h0; omega))
      refine Out.same hr (.frz _ _ _ _ _ _ hf) ?_
      have e0 : lenL x.cs = 0 := by rw [hcs]; rfl
      rw [e0] at h0
      rw [sliceAt_sl ht]
      simp only [Instr.slice, Sem.run_bind, run_und ht, Result.andThen_ok, hbd, run_sizeOf hs, Sem.run_pure', h0, l0]
      rfl
    · have hbd := run_bounds (P := P) (w := w) (isSlice := true) (len := x.cs.length) (cap := cap) (top := x.cs.length) hlo hhi hcap (by
        rw [lenL_eq] at gh i1
        exact ix3 (beq_true.1 gh) i1 h63) (by
        rw [lenL_eq] at i1 i2
        exact ix3 (beq_true.1 g3) i2 (by omega))
      rw [lenL_eq] at i1 i2 hf ⊢
      generalize hh : (bi hasHi h (mk1 3 x.cs.length)).p = hp' at *
      refine Out.same (val := .slice (some (if cap = l.p then ad else ad.add (l.p * sz))) (hp' - l.p) (cap - l.p)) hr (.frz _ _ _ _ _ _ (hf _ _ (fun h => by cases h) (by omega) fun hlt => by rw [if_neg (by omega), hsz])) ?_
      rw [sliceAt_sl ht]
      simp only [Instr.slice, Sem.run_bind, run_und ht, Result.andThen_ok, hbd, run_sizeOf hs, Sem.run_pure']
      by_cases hc : cap = l.p
      · rw [if_pos hc, if_pos hc]
      · rw [if_neg hc, if_neg hc]; rfl
  · have l0 := beq_true.1 g0
    have i1 := ble_true.1 g1
    have htag := beq_true.1 g25
    have fin : ∀ ad len cap, vx = .slice ad len cap → x.r = len → len ≤ cap → x.r < 2 ^ 63 → (VR φ ⟨25, x.p, x.q, (bi hasHi h (mk1 3 x.r)).p, 0, []⟩ (.slice ad (bi hasHi h (mk1 3 x.r)).p cap)) → Out P w0 (fun v w' => (Instr.sliceAt t vx lo hi none).run P w = .ok v w') H φ (c H ⟨25, x.p, x.q, (bi hasHi h (mk1 3 x.r)).p, 0, []⟩) c := by
      intro ad len cap hv hlen hcap h63 hvr
      subst hv hlen
      have hbd := run_bounds (P := P) (w := w) (isSlice := true) (len := x.r) (cap := cap) (top := x.r) hlo hhi hcap (ix3 (beq_true.1 gh) i1 h63) (ix3 (beq_true.1 g3) (by omega) (by omega))
      refine Out.same hr hvr ?_
      rw [sliceAt_sl ht]
      simp only [Instr.slice, Sem.run_bind, run_und ht, Result.andThen_ok, hbd, run_sizeOf hs, Sem.run_pure', l0, Nat.sub_zero]
      by_cases hc : cap = 0
      · rw [if_pos hc]
      · rw [if_neg hc]
        cases ad with
        | none => rfl
        | some ad => simp [Addr.add]
    by_cases hr0 : x.r = 0
    · have h0 : (bi hasHi h (mk1 3 x.r)).p = 0 := by omega
      have key : ∃ ad cap, vx = .slice ad 0 cap ∧ VR φ ⟨25, x.p, x.q, 0, 0, []⟩ (.slice ad 0 cap) := by
        cases hx <;> simp only at htag hr0 <;> first | (subst hr0; exact ⟨_, _, rfl, .own _ _ _ _ _ (by assumption) (Nat.zero_le _) (by assumption)⟩) | exact ⟨_, _, rfl, .ownn _ _ _⟩ | exact ⟨_, _, rfl, .owne _ _ _ _⟩ | (exact absurd htag (by omega))
      obtain ⟨ad, cap, rfl, hv⟩ := key
      exact fin ad 0 cap rfl hr0 (Nat.zero_le _) (by omega) (by rw [h0]; exact hv)
    · have hp : x.p = 1 := by
        cases hx <;> first | rfl | exact absurd rfl hr0 | (simp only at htag; omega)
      obtain ⟨y, hy, g2, g4, rfl⟩ := own_of_r hx htag (by omega)
      obtain ⟨l, rest, ty, fr, ho, k1, k2, k3, k4, k5, k6, k7⟩ := hr.list hy gL
      exact fin _ _ _ rfl rfl (by omega) (by omega) (by rw [hp]; exact .own _ _ _ _ _ hy (by omega) g4)
theorem cut3Y_out {t e : TypeId} {sz : Nat} {lo : Option Value} {x l h m : AV} {vx vh vm : Value} (ht : (tyB P t).run = some (.slice e)) (hs : (szB P e).run = some sz) (hx : VR φ x vx) (hlo : LoOK φ lo l) (hh : VR φ h vh) (hm : VR φ m vm) (hr : HR P w0 H φ w)
    (hok : AllOk ((cut3Y sz).run [x, l, h, m] H c)) : Out P w0 (fun v w' => (Instr.sliceAt t vx lo (some vh) (some vm)).run P w = .ok v w') H φ ((cut3Y sz).run [x, l, h, m] H c) c := by
  refine Out.bi hok fun g3 hok => Out.bi hok fun g24 hok => Out.bi hok fun g0 hok => Out.bi hok fun g1 hok => Out.bi hok fun g2 _ => ?_
  obtain ⟨gl, g3⟩ := bi_and.1 g3
  obtain ⟨gh, gm⟩ := bi_and.1 g3
  obtain ⟨g24, gsz⟩ := bi_and.1 g24
  have gl : l.tag = 3 := beq_true.1 gl
  have gh : h.tag = 3 := beq_true.1 gh
  have gm : m.tag = 3 := beq_true.1 gm
  have gsz : x.r = sz := beq_true.1 gsz
  have g0 : h.p = m.p := beq_true.1 g0
  have i1 : h.p ≤ x.cs.length := by have := ble_true.1 g1; rwa [lenL_eq] at this
  have i2 : l.p ≤ h.p := ble_true.1 g2
  have g24 : x.tag = 24 := beq_true.1 g24
  change Out P w0 _ H φ (c H ⟨24, x.p, 0, x.r, 1, dropL (takeN h.p x.cs) l.p⟩) c
  rw [dropL_eq, takeN_eq]
  rcases ((hx.of_frz g24).of_sl g24).part i2 i1 (.inr rfl) with ⟨rfl, hp, hcs, hf⟩ | ⟨ad, cap, rfl, hp, hcap, h63, hf⟩
  · rw [hcs] at i1
    have h0 : h.p = 0 := by simpa using i1
    have l0 : l.p = 0 := by omega
    have m0 : m.p = 0 := by omega
    have b1 := run_bound (P := P) (w := w) (m := 0) (code := .slice3Acap) hm (ix3 (n := 0) gm (by omega) (by omega)) (Nat.le_refl _)
    have b2 := run_bound (P := P) (w := w) (m := m.p) (code := .slice3B) hh (ix3 (n := m.p) gh (by omega) (by omega)) (Nat.le_refl _)
    have hbd : (Instr.sliceBounds true 0 0 lo (some vh) (some vm)).run P w = .ok (l.p, h.p, m.p) w := by
      rcases hlo with ⟨rfl, hp⟩ | ⟨u, rfl, hu⟩
      · simp only [Instr.sliceBounds, Sem.run_bind, Sem.run_pure', Result.andThen_ok, b1, b2, if_true, hp]
      · have hb' := run_bound (P := P) (w := w) (m := h.p) (code := .slice3C) hu (ix3 (n := h.p) gl (by omega) (by omega)) (Nat.le_refl _)
        simp only [Instr.sliceBounds, Sem.run_bind, Sem.run_pure', Result.andThen_ok, b1, b2, if_true, Option.isSome_some, hb']
    refine Out.same hr (.frz _ _ _ _ _ _ hf) ?_
    rw [sliceAt_sl ht]
    simp only [Instr.slice, Sem.run_bind, run_und ht, Result.andThen_ok, hbd, run_sizeOf hs, Sem.run_pure', h0, l0, m0]
    rfl
  · have b1 := run_bound (P := P) (w := w) (m := cap) (code := .slice3Acap) hm (ix3 (n := x.cs.length) gm (by omega) h63) hcap
    have b2 := run_bound (P := P) (w := w) (m := m.p) (code := .slice3B) hh (ix3 (n := m.p) gh (by omega) (by omega)) (Nat.le_refl _)
    have hbd : (Instr.sliceBounds true x.cs.length cap lo (some vh) (some vm)).run P w = .ok (l.p, h.p, m.p) w := by
      rcases hlo with ⟨rfl, hp⟩ | ⟨u, rfl, hu⟩
      · simp only [Instr.sliceBounds, Sem.run_bind, Sem.run_pure', Result.andThen_ok, b1, b2, if_true, hp]
      · have hb' := run_bound (P := P) (w := w) (m := h.p) (code := .slice3C) hu (ix3 (n := h.p) gl (by omega) (by omega)) (Nat.le_refl _)
        simp only [Instr.sliceBounds, Sem.run_bind, Sem.run_pure', Result.andThen_ok, b1, b2, if_true, Option.isSome_some, hb']
    refine Out.same (val := .slice (some (if m.p = l.p then ad else ad.add (l.p * sz))) (h.p - l.p) (m.p - l.p)) hr (.frz _ _ _ _ _ _ (hf _ _ (fun _ => by omega) (by omega) fun hlt => by rw [if_neg (by omega), gsz])) ?_
    rw [sliceAt_sl ht]
    simp only [Instr.slice, Sem.run_bind, run_und ht, Result.andThen_ok, hbd, run_sizeOf hs, Sem.run_pure']
    by_cases hc : m.p = l.p
    · rw [if_pos hc, if_pos hc]
    · rw [if_neg hc, if_neg hc]; rfl
end Go.Eng
