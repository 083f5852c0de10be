
/- A part of the proof that the evaluator in GnC, and the driver in GnZ, answer as the model does; no conditions. -/
import Derived.Test.YtfmoohdaimlggaaGreatDoorGnS14
namespace Go.Eng
open Go.RowKit
variable {P : Program} {w0 : World} {H : Hp} {φ : Ph} {c : Kont} {w : World}

/-! ### a walk over a map -/
theorem range_out {t kt e : TypeId} {m : AV} {vm : Value} (ht : (tyB P t).run = some (.map kt e)) (hm : VR φ m vm) (hr : HR P w0 H φ w) (hok : AllOk (rangeC.run m H c)) :
    Out P w0 (fun v w' => (Instr.range t vm).run P w = .ok v w') H φ (rangeC.run m H c) c := by
  refine Out.bi2 hok (fun h12 hok => Out.bi hok fun hk hok => ?_) fun _ hok => Out.bi hok fun hn hok => ?_
  · obtain ⟨x, rfl, hx⟩ := hm.of_map (beq_true.1 h12)
    obtain ⟨_, _, o, ho, hB⟩ := hr.blk _ _ hx
    obtain ⟨es, rfl, hes, _⟩ := hB.map (beq_true.1 hk)
    refine Out.new (o := .mapIter (some x) (hget H m.p).e #[] (hget H m.p).e) (val := .pointer (some ⟨w.heap.size, 0, none⟩)) hr ?_ ?_ ?_ hok
    · exact ⟨(fun h => by cases h), (fun h => by cases h), fun _ => ⟨m, [], some x, rfl, hm, rfl⟩, (fun h => by exact no43 h)⟩
    · intro φ' _ h; exact .ptr _ _ _ _ _ _ h
    · simp only [Instr.range, Sem.run_bind, run_und ht, Result.andThen_ok, run_getMap ho, run_newObj, Sem.run_pure']
  · have := hm.isNil hn; simp only at this; subst this
    refine Out.new (o := .mapIter none 0 #[] 0) (val := .pointer (some ⟨w.heap.size, 0, none⟩)) hr ?_ ?_ ?_ hok
    · exact ⟨(fun h => by cases h), (fun h => by cases h), fun _ => ⟨m, [], none, rfl, hm, rfl⟩, (fun h => by exact no43 h)⟩
    · intro φ' _ h; exact .ptr _ _ _ _ _ _ h
    · simp only [Instr.range, Sem.run_bind, run_und ht, Result.andThen_ok, run_newObj, Sem.run_pure']
theorem memN_eq (n : Nat) (l : List AV) : memN n l = (seenOf l).contains n := by
  induction l with
  | nil => rfl
  | cons a l ih =>
    show bi (nbeq a.p n) true (memN n l) = _
    rw [ih]
    simp only [seenOf, List.map_cons, List.contains_cons]
    cases h : nbeq a.p n
    · have := beq_false.1 h
      have h' : (n == a.p) = false := by rw [beq_eq_false_iff_ne]; exact fun e => this e.symm
      rw [h', bi_false, Bool.false_or]
    · have := beq_true.1 h
      subst this; simp
theorem leftE_cons (seen : List AV) (e : AV) (es : List AV) : leftE seen (e :: es) = bi (memN e.p seen) (leftE seen es) (e :: leftE seen es) := rfl
theorem left_ok {kt ck : Nat} {as : List AV} {es : List MapEntry} (seen : List AV) (h : Ents φ kt ck as es) : Ents φ kt ck (leftE seen as) (es.filter fun e => !(seenOf seen).contains e.born) := by
  induction h with
  | nil => exact .nil
  | @cons b q r s k v ek ev as es h1 h2 h3 h4 h5 ih =>
    rw [leftE_cons, memN_eq, List.filter_cons]
    show Ents φ kt ck (bi ((seenOf seen).contains b) _ _) (if (!(seenOf seen).contains b) = true then _ else _)
    cases (seenOf seen).contains b
    · exact .cons h1 h2 h3 h4 ih
    · exact ih
theorem Ents.born {kt ck : Nat} {as : List AV} {es : List MapEntry} (h : Ents φ kt ck as es) : ∀ e ∈ es, e.born < ck := by
  induction h with
  | nil => intro e he; cases he
  | cons h1 h2 h3 h4 h5 ih =>
    intro e he
    rcases List.mem_cons.1 he with rfl | he
    · exact h4
    · exact ih e he
theorem Ents.at {kt ck : Nat} {as : List AV} {es : List MapEntry} (h : Ents φ kt ck as es) : ∀ {j : Nat} {e : MapEntry}, es[j]? = some e → ∃ a ∈ as, ∃ k v, a.cs = [k, v] ∧ a.p = e.born ∧ VR φ k e.key ∧ VR φ v e.val := by
  induction h with
  | nil => intro j e he; simp at he
  | @cons b q r s k v ek ev as es h1 h2 h3 h4 h5 ih =>
    intro j e he
    cases j with
    | zero => simp at he; subst he; exact ⟨_, List.mem_cons_self .., k, v, rfl, rfl, h1, h3⟩
    | succ j =>
      obtain ⟨a, ha, rest⟩ := ih (by simpa using he)
      exact ⟨a, List.mem_cons_of_mem _ ha, rest⟩
theorem Out.sub {Y : Value → World → Prop} {L L' : RL} (h : Out P w0 Y H φ L c) (hs : ∀ x ∈ L, x ∈ L') : Out P w0 Y H φ L' c := by
  obtain ⟨H', v, φ', val, w', h1, h2⟩ := h
  exact ⟨H', v, φ', val, w', fun x hx => hs x (h1 x hx), h2⟩
theorem run_getWalk {x : Nat} {mr : Option Nat} {s st : Nat} {seen : Array Nat} (h : w.heap[x]? = some (.mapIter mr s seen st)) : (getObj x).run P w = .ok (.mapIter mr s seen st) w := by
  simp only [getObj, Sem.run, h]
theorem vr_tup1 {a : AV} {va : Value} (ha : VR φ a va) : VR φ (tupV [a]) (.tuple #[va]) := .tup 0 0 0 0 [a] [va] (.cons ha .nil)
theorem vr_tup3 {a b d : AV} {va vb vd : Value} (ha : VR φ a va) (hb : VR φ b vb) (hd : VR φ d vd) : VR φ (tupV [a, b, d]) (.tuple #[va, vb, vd]) := .tup 0 0 0 0 [a, b, d] [va, vb, vd] (.cons ha (.cons hb (.cons hd .nil)))
theorem entry_out {it : AV} {vi : Value} (hi : VR φ it vi) (hr : HR P w0 H φ w) (hok : AllOk (entryC.run it H c)) :
    Out P w0 (fun v w' => (Instr.entry vi).run P w = .ok v w') H φ (entryC.run it H c) c := by
  refine Out.bi hok fun h10 hok => Out.bi hok fun hq hok => ?_
  obtain ⟨x, rfl, hx⟩ := hi.of_ptr (beq_true.1 h10)
  obtain ⟨_, _, o, ho, hB⟩ := hr.blk _ _ hx
  have hq' := beq_true.1 hq
  rw [hq']
  generalize hget H it.p = B at *
  refine Out.bi hok fun hk hok => ?_
  obtain ⟨m, seen, mr, hcs, hm, rfl⟩ := hB.walk (beq_true.1 hk)
  rw [hcs] at hok ⊢
  have n0 : nthL [m, tupV seen] 0 = m := rfl
  have n1 : (nthL [m, tupV seen] 1).cs = seen := rfl
  rw [n0, n1] at hok ⊢
  refine Out.bi hok fun h12 hok => ?_
  obtain ⟨y, hy1, hy⟩ := hm.of_map (beq_true.1 h12)
  cases hy1
  obtain ⟨_, _, o', ho', hB'⟩ := hr.blk _ _ hy
  generalize hget H m.p = M at *
  refine Out.bi hok fun hk2 hok => Out.bi hok fun he hok => ?_
  obtain ⟨es, rfl, hes, _⟩ := hB'.map (beq_true.1 hk2)
  have he' := beq_true.1 he
  cases seen with
  | nil => exact (failR_bad hok).elim
  | cons s0 ss =>
    refine Out.om hok fun l hl _ => ?_
    have hlast : (seenOf (s0 :: ss)).toArray.back? = some (lastN (s0 :: ss)) := by
      have key : ∀ (l : List AV) (n : Nat), (List.rec (motive := fun _ => Nat → Nat) (fun n => n) (fun a _ ih _ => ih a.p) l n) = ((seenOf l).getLast?).getD n := by
        intro l
        induction l with
        | nil => intro n; rfl
        | cons a l ih =>
          intro n
          show (List.rec (motive := fun _ => Nat → Nat) (fun n => n) (fun a _ ih _ => ih a.p) l a.p) = _
          rw [ih]
          cases l with
          | nil => rfl
          | cons b l =>
            have e : (seenOf (a :: b :: l)).getLast? = (seenOf (b :: l)).getLast? := by simp [seenOf, List.getLast?_cons_cons]
            rw [e]
            cases h : (seenOf (b :: l)).getLast? with
            | none => simp [seenOf] at h
            | some x => rfl
      have h0 := key (s0 :: ss) 0
      have h1 : lastN (s0 :: ss) = ((seenOf (s0 :: ss)).getLast?).getD 0 := h0
      rw [h1, List.back?_toArray]
      cases h : (seenOf (s0 :: ss)).getLast? with
      | none => simp [seenOf] at h
      | some x => rfl
    have hfind : ∀ {as : List AV} {es : List MapEntry}, Ents φ M.t M.e as es → ∀ l, findB (lastN (s0 :: ss)) as = some l → ∃ e, es.find? (·.born == lastN (s0 :: ss)) = some e ∧ ∃ k v, l = [k, v] ∧ VR φ k e.key ∧ VR φ v e.val := by
      intro as es h
      induction h with
      | nil => intro l h; cases h
      | @cons b q r s k v ek ev as es h1 h2 h3 h4 h5 ih =>
        intro l h
        change bi (nbeq b (lastN (s0 :: ss))) (some [k, v]) (findB (lastN (s0 :: ss)) as) = some l at h
        cases hb : nbeq b (lastN (s0 :: ss))
        · rw [hb, bi_false] at h
          obtain ⟨e, he, rest⟩ := ih l h
          refine ⟨e, ?_, rest⟩
          have : (b == lastN (s0 :: ss)) = false := by rw [beq_eq_false_iff_ne]; exact beq_false.1 hb
          simp [List.find?_cons, this, he]
        · rw [hb, bi_true] at h
          cases h
          have : (b == lastN (s0 :: ss)) = true := by rw [beq_iff_eq]; exact beq_true.1 hb
          exact ⟨⟨ek, ev, b⟩, by simp [List.find?_cons, this], k, v, rfl, h1, h3⟩
    obtain ⟨ee, hee, k, v, rfl, hk1, hv1⟩ := hfind hes l hl
    refine Out.same hr (vr_tup2 hk1 hv1) ?_
    have hne : (M.e != B.e) = false := by rw [he']; simp
    simp only [Instr.entry, Sem.run_bind, run_getWalk ho, Result.andThen_ok, hlast, run_getMap ho', hne, Bool.false_eq_true, if_false]
    have : es.toArray.find? (·.born == lastN (s0 :: ss)) = some ee := by simpa using hee
    rw [this]; rfl
theorem run_next {x y e : Nat} {seen : List Nat} {es : List MapEntry} {ty : TypeId} (ho : w.heap[x]? = some (.mapIter (some y) e seen.toArray e)) (ho' : w.heap[y]? = some (.map es.toArray e)) (hb : ∀ en ∈ es, en.born < e) :
    ((es.filter fun en => !seen.contains en.born) = [] ∧ (Instr.next (.pointer (some ⟨x, 0, none⟩)) false ty).run P w = .ok (.tuple #[.bool false]) w) ∨
    ∃ (j : Nat) (en : MapEntry) (w1 : World), (es.filter fun en => !seen.contains en.born)[j]? = some en ∧ (w1 = w ∨ w1 = w.drew) ∧
      (Instr.next (.pointer (some ⟨x, 0, none⟩)) false ty).run P w = .ok (.tuple #[.bool true, en.key, en.val]) { w1 with heap := w1.heap.setIfInBounds x (.mapIter (some y) e (seen ++ [en.born]).toArray e) } := by
  generalize hL : (es.filter fun en => !seen.contains en.born) = L
  have hleft : es.toArray.filter (fun en => !seen.toArray.contains en.born) = L.toArray := by rw [← hL]; simp
  have hmem : ∀ en ∈ L, en.born < e := by
    intro en hen
    rw [← hL] at hen
    exact hb en (List.mem_filter.1 hen).1
  have hold : L.toArray.filter (fun en => decide (en.born < e)) = L.toArray := by
    rw [List.filter_toArray, List.filter_eq_self.2 (fun en hen => by simpa using hmem en hen)]
  have hnew : L.toArray.filter (fun en => decide (en.born ≥ e)) = #[] := by
    rw [List.filter_toArray, List.filter_eq_nil_iff.2 (fun en hen => by have := hmem en hen; simp; omega)]
  have hguard : (!seen.toArray.isEmpty && !es.toArray.isEmpty && es.toArray.all (fun en => decide (en.born ≥ e))) = false := by
    cases es with
    | nil => simp
    | cons a es =>
      have := hb a (List.mem_cons_self ..)
      have h' : decide (a.born ≥ e) = false := by simp; omega
      simp [h']
  cases hLc : L with
  | nil =>
    left
    refine ⟨rfl, ?_⟩
    subst hLc
    simp only [Instr.next, Sem.run_bind, run_getWalk ho, run_getMap ho', Result.andThen_ok, hguard, Bool.false_eq_true, if_false, hleft, hold, hnew]
    have hc : ((if (#[] : Array MapEntry).isEmpty = true then #[none] else #[]) ++ Array.map some (#[] ++ #[]) : Array (Option MapEntry)) = #[none] := by simp
    rw [hc]
    rfl
  | cons a L' =>
    right
    rw [← hLc]
    have hpos : 0 < L.length := by rw [hLc]; simp
    have hch : ∃ (j : Nat) (w1 : World), j < L.length ∧ (w1 = w ∨ w1 = w.drew) ∧ (choose (.mapNext L.length)).run P w = .ok j w1 := by
      by_cases h1 : L.length ≤ 1
      · refine ⟨0, w, hpos, .inl rfl, ?_⟩
        have : (Question.mapNext L.length).forced = true := by simp [Question.forced, h1]
        simp only [choose, Sem.run, this, if_true]
      · refine ⟨w.tape w.drawn (.mapNext L.length) % L.length, w.drew, Nat.mod_lt _ hpos, .inr rfl, ?_⟩
        have : (Question.mapNext L.length).forced = false := by simp [Question.forced]; omega
        simp only [choose, Sem.run, this, Bool.false_eq_true, if_false]
        rfl
    obtain ⟨j, w1, hj, hw1, hrun⟩ := hch
    have hget : L[j]? = some L[j] := List.getElem?_eq_getElem hj
    refine ⟨j, L[j], w1, hget, hw1, ?_⟩
    have hne : L.toArray.isEmpty = false := by rw [hLc]; rfl
    have hc : ((if L.toArray.isEmpty = true then #[none] else #[]) ++ Array.map some (L.toArray ++ #[]) : Array (Option MapEntry)) = (L.map some).toArray := by rw [hne]; simp
    have hsz : (L.map some).toArray.size = L.length := by simp
    have hat : (L.map some).toArray[j]? = some (some L[j]) := by simp [hget]
    have ho1 : w1.heap[x]? = some (.mapIter (some y) e seen.toArray e) := by rcases hw1 with rfl | rfl <;> exact ho
    have hset := run_setObj (P := P) (w := w1) (.mapIter (some y) e (seen ++ [L[j].born]).toArray e) ho1 (fun _ _ _ h => by cases h)
    have hpush : seen.toArray.push L[j].born = (seen ++ [L[j].born]).toArray := by simp
    simp only [Instr.next, Sem.run_bind, run_getWalk ho, run_getMap ho', Result.andThen_ok, hguard, Bool.false_eq_true, if_false, hleft, hold, hnew, hc, hsz, hrun, hat, hpush, hset, Sem.run_pure']
theorem next_out {it : AV} {vi : Value} {ty : TypeId} (hi : VR φ it vi) (hr : HR P w0 H φ w) (hok : AllOk (nextC.run it H c)) :
    Out P w0 (fun v w' => (Instr.next vi false ty).run P w = .ok v w') H φ (nextC.run it H c) c := by
  refine Out.bi hok fun h10 hok => Out.bi hok fun hq hok => ?_
  obtain ⟨x, rfl, hx⟩ := hi.of_ptr (beq_true.1 h10)
  obtain ⟨_, _, o, ho, hB⟩ := hr.blk _ _ hx
  have hq' := beq_true.1 hq
  rw [hq']
  have hkind : ∀ k, (hget H it.p).kind = k → k ≠ 0 → (hget H it.p).kind ≠ 0 := fun k h h' => by omega
  generalize hBd : hget H it.p = B at *
  refine Out.bi hok fun hk hok => ?_
  obtain ⟨m, seen, mr, hcs, hm, rfl⟩ := hB.walk (beq_true.1 hk)
  rw [hcs] at hok ⊢
  have n0 : nthL [m, tupV seen] 0 = m := rfl
  have n1 : (nthL [m, tupV seen] 1).cs = seen := rfl
  rw [n0, n1] at hok ⊢
  refine Out.bi2 hok (fun h17 hok => ?_) fun h17 hok => Out.bi hok fun h12 hok => ?_
  · have : mr = none := by
      rcases hm.of_nil (beq_true.1 h17) with ⟨_, h⟩ | ⟨_, h⟩ | ⟨_, h⟩ | ⟨_, h⟩ | ⟨_, h⟩ <;> cases h; rfl
    subst this
    refine Out.same hr (vr_tup1 (vr_bool false)) ?_
    simp only [Instr.next, Sem.run_bind, run_getWalk ho, Result.andThen_ok, Sem.run_pure']
  · obtain ⟨y, hy1, hy⟩ := hm.of_map (beq_true.1 h12)
    cases hy1
    obtain ⟨_, _, o', ho', hB'⟩ := hr.blk _ _ hy
    generalize hget H m.p = M at *
    refine Out.bi hok fun hk2 hok => Out.bi hok fun he hok => ?_
    obtain ⟨es, rfl, hes, _⟩ := hB'.map (beq_true.1 hk2)
    have he' := beq_true.1 he
    rw [he'] at ho' hes
    have hleft := left_ok seen hes
    have hnx := run_next (P := P) (ty := ty) ho ho' hes.born
    generalize hLA : leftE seen M.cs = LA at *
    generalize (es.filter fun en => !(seenOf seen).contains en.born) = L at *
    rcases hnx with ⟨hL, hrun⟩ | ⟨j, en, w1, hat, hw1, hrun⟩
    · subst hL
      cases hleft
      exact Out.same hr (vr_tup1 (vr_bool false)) hrun
    · obtain ⟨a, ha, k, v, hacs, hap, hkr, hvr⟩ := hleft.at hat
      have hr1 : HR P w0 H φ w1 := by
        rcases hw1 with rfl | rfl
        · exact hr
        · exact hr.drew
      have ho1 : w1.heap[x]? = some (.mapIter (some y) B.e (seenOf seen).toArray B.e) := by rcases hw1 with rfl | rfl <;> exact ho
      have hmemS : ∀ z ∈ setC H it.p (walkB m B.e (appL seen [mk1 3 a.p])) (tupV [bV true, nthL a.cs 0, nthL a.cs 1]) c, z ∈ (List.rec (motive := fun _ => RL) (c H (tupV [bV false])) (fun _ _ _ => stepsK it.p B H c LA) LA : RL) := by
        intro z hz
        cases LA with
        | nil => cases ha
        | cons b LA =>
          show z ∈ stepsK it.p B H c (b :: LA)
          unfold stepsK
          rw [mem_fmL]
          refine ⟨a, ha, ?_⟩
          rw [hcs, n0, n1]; exact hz
      have hokS : AllOk (setC H it.p (walkB m B.e (appL seen [mk1 3 a.p])) (tupV [bV true, nthL a.cs 0, nthL a.cs 1]) c) := fun z hz => hok z (hmemS z hz)
      refine Out.sub ?_ hmemS
      obtain ⟨s1, s2, s3⟩ := set_heap (w := w1) (.mapIter (some y) B.e (seenOf seen ++ [en.born]).toArray B.e) ho1
      have hk0 := beq_true.1 hk
      refine Out.set (x := x) (o' := .mapIter (some y) B.e (seenOf seen ++ [en.born]).toArray B.e) hr1 hx (by rw [hBd]; omega) ?_ ?_ hrun s1 s2 s3 rfl rfl rfl hokS (fun h => by rw [hBd] at h; omega) (by rw [hBd]; omega)
      · refine ⟨(fun h => by cases h), (fun h => by cases h), fun _ => ⟨m, appL seen [mk1 3 a.p], some y, rfl, hm, ?_⟩, (fun h => by exact no43 h)⟩
        rw [appL_eq]
        have : seenOf (seen ++ [mk1 3 a.p]) = seenOf seen ++ [en.born] := by simp [seenOf, mk1, hap]
        rw [this]; rfl
      · rw [hacs]
        exact vr_tup3 (vr_bool true) hkr hvr
end Go.Eng
