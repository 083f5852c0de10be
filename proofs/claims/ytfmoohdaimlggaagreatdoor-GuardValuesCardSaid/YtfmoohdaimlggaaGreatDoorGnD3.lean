
/- A part of the proof that the evaluator in GnC, and the driver in GnZ, answer as the model does; no conditions. -/
import Derived.Test.YtfmoohdaimlggaaGreatDoorGnD2
namespace Go.Eng
open Go.RowKit

/-! ### the looks at a region -/
theorem testB_eq (m i : Nat) : testB m i = m.testBit i := by
  unfold testB
  rw [Nat.testBit_eq_decide_div_mod_eq]
  have e1 : Nat.shiftRight m i = m / 2 ^ i := Nat.shiftRight_eq_div_pow m i
  have e2 : Nat.land (m / 2 ^ i) 1 = m / 2 ^ i % 2 := Nat.and_one_is_mod _
  rw [e1, e2]
  by_cases h : m / 2 ^ i % 2 = 1
  · rw [h]; simp
  · rw [beq_false.2 h]; simp [h]
theorem subB_spec {a b j : Nat} (h : subB a b = true) (ha : a.testBit j = true) : b.testBit j = true := by
  have e : a &&& b = a := beq_true.1 h
  rw [← e, Nat.testBit_and] at ha
  exact (Bool.and_eq_true_iff.1 ha).2
theorem nb_true {b : Bool} : nb b = true ↔ b = false := by cases b <;> simp [nb, bi]
theorem lor_bit {m i j : Nat} : (Nat.lor m (Nat.pow 2 i)).testBit j = true ↔ m.testBit j = true ∨ j = i := by
  show (m ||| 2 ^ i).testBit j = true ↔ _
  rw [Nat.testBit_or, Bool.or_eq_true, Nat.testBit_two_pow, decide_eq_true_eq]
  exact or_congr Iff.rfl ⟨Eq.symm, Eq.symm⟩
theorem pow_bit {i j : Nat} : (Nat.pow 2 i).testBit j = true ↔ j = i := by
  show (2 ^ i).testBit j = true ↔ _
  rw [Nat.testBit_two_pow, decide_eq_true_eq]
  exact ⟨Eq.symm, Eq.symm⟩
theorem memT_iff {d : Nat} {l : List Nat} : memT d l = true ↔ d ∈ l := by
  induction l with
  | nil => simp [memT]
  | cons x l ih =>
    show bi (nbeq x d) true (memT d l) = true ↔ _
    rw [bi_or, ih, beq_true, List.mem_cons]
    exact or_congr ⟨Eq.symm, Eq.symm⟩ Iff.rfl
theorem land_common {a b : Nat} (h : nbeq (Nat.land a b) 0 = false) : ∃ j, a.testBit j = true ∧ b.testBit j = true := by
  have h1 : a &&& b ≠ 0 := beq_false.1 h
  obtain ⟨j, hj⟩ := Nat.exists_testBit_of_ne_zero h1
  rw [Nat.testBit_and, Bool.and_eq_true] at hj
  exact ⟨j, hj⟩
structure Topo (full : Nat) (l : List DI) (dn : Nat) : Prop where
  apart : ∀ b ∈ l, dn.testBit b.i = false
  nodup : ∀ l1 b l2, l = l1 ++ b :: l2 → ∀ b' ∈ l1, b'.i ≠ b.i
  down : ∀ l1 b l2, l = l1 ++ b :: l2 → ∀ j, b.dm.testBit j = true → dn.testBit j = true ∨ ∃ b' ∈ l1, b'.i = j
  full : ∀ i, full.testBit i = true → dn.testBit i = true ∨ ∃ b ∈ l, b.i = i
  hang : ∀ l1 h l2, l = l1 ++ h :: l2 → h.cls = 2 → ∀ b ∈ l2, ∃ j, b.dm.testBit j = true ∧ ∃ b' ∈ h :: l2, b'.i = j
theorem topo_ok {full : Nat} (l : List DI) : ∀ (dn sn : Nat), topoB full l dn sn = true → Topo full l dn ∧ (sn ≠ 0 → ∀ b ∈ l, ∃ j, b.dm.testBit j = true ∧ (sn.testBit j = true ∨ ∃ b' ∈ l, b'.i = j)) := by
  induction l with
  | nil =>
    intro dn sn h
    have h : subB full dn = true := h
    refine ⟨⟨fun b hb => (by cases hb), fun l1 b l2 h => ?_, fun l1 b l2 h => ?_, fun i hi => .inl (subB_spec h hi), fun l1 b l2 h => ?_⟩, fun _ b hb => (by cases hb)⟩ <;> simp at h
  | cons a l ih =>
    intro dn sn h
    have h : bi (testB dn a.i) false (bi (subB a.dm dn) (bi (bi (nbeq sn 0) true (nb (nbeq (Nat.land a.dm sn) 0)))
      (topoB full l (Nat.lor dn (Nat.pow 2 a.i)) (bi (nbeq a.cls 2) (Nat.pow 2 a.i) (bi (nbeq sn 0) 0 (Nat.lor sn (Nat.pow 2 a.i))))) false) false) = true := h
    cases h0 : testB dn a.i
    · rw [h0, bi_false] at h
      rw [testB_eq] at h0
      obtain ⟨h1, h⟩ := bi_and.1 h
      obtain ⟨h2, h⟩ := bi_and.1 h
      obtain ⟨ht, hs⟩ := ih _ _ h
      have hsplit : ∀ l1 b l2, a :: l = l1 ++ b :: l2 → (l1 = [] ∧ a = b ∧ l = l2) ∨ ∃ l1', l1 = a :: l1' ∧ l = l1' ++ b :: l2 := by
        intro l1 b l2 e
        cases l1 with
        | nil => simp at e; exact .inl ⟨rfl, e.1, e.2⟩
        | cons x l1 => simp at e; exact .inr ⟨l1, by rw [e.1], e.2⟩
      have hap : ∀ b ∈ l, dn.testBit b.i = false ∧ b.i ≠ a.i := by
        intro b hb
        have h3 := ht.apart b hb
        refine ⟨?_, fun e => ?_⟩
        · cases hd : dn.testBit b.i with
          | false => rfl
          | true => rw [lor_bit.2 (.inl hd)] at h3; cases h3
        · rw [lor_bit.2 (.inr e)] at h3; cases h3
      refine ⟨⟨?_, ?_, ?_, ?_, ?_⟩, ?_⟩
      · intro b hb
        cases hb with
        | head => exact h0
        | tail _ hb => exact (hap b hb).1
      · intro l1 b l2 e b' hb'
        rcases hsplit l1 b l2 e with ⟨rfl, _⟩ | ⟨l1', rfl, e'⟩
        · cases hb'
        · cases hb' with
          | head => exact fun e2 => (hap b (by rw [e']; simp)).2 e2.symm
          | tail _ hb' => exact ht.nodup l1' b l2 e' b' hb'
      · intro l1 b l2 e j hj
        rcases hsplit l1 b l2 e with ⟨rfl, rfl, _⟩ | ⟨l1', rfl, e'⟩
        · exact .inl (subB_spec h1 hj)
        · rcases ht.down l1' b l2 e' j hj with h3 | ⟨b', hb', e3⟩
          · rcases lor_bit.1 h3 with h4 | h4
            · exact .inl h4
            · exact .inr ⟨a, by simp, h4.symm⟩
          · exact .inr ⟨b', by simp [hb'], e3⟩
      · intro i hi
        rcases ht.full i hi with h3 | ⟨b, hb, e⟩
        · rcases lor_bit.1 h3 with h4 | h4
          · exact .inl h4
          · exact .inr ⟨a, by simp, h4.symm⟩
        · exact .inr ⟨b, by simp [hb], e⟩
      · intro l1 hh l2 e hc b hb
        rcases hsplit l1 hh l2 e with ⟨rfl, rfl, rfl⟩ | ⟨l1', rfl, e'⟩
        · rw [beq_true.2 hc, bi_true] at hs
          have hne : Nat.pow 2 a.i ≠ 0 := fun e0 => by
            have := pow_bit (i := a.i) (j := a.i)
            rw [e0] at this
            simp at this
          obtain ⟨j, h3, h4⟩ := hs hne b hb
          refine ⟨j, h3, ?_⟩
          rcases h4 with h4 | ⟨b', hb', e4⟩
          · exact ⟨a, by simp, (pow_bit.1 h4).symm⟩
          · exact ⟨b', by simp [hb'], e4⟩
        · exact ht.hang l1' hh l2 e' hc b hb
      · intro hsn b hb
        cases hb with
        | head =>
          rw [beq_false.2 hsn, bi_false, nb_true] at h2
          obtain ⟨j, h3, h4⟩ := land_common h2
          exact ⟨j, h3, .inl h4⟩
        | tail _ hb =>
          have hne : bi (nbeq a.cls 2) (Nat.pow 2 a.i) (bi (nbeq sn 0) 0 (Nat.lor sn (Nat.pow 2 a.i))) ≠ 0 := by
            intro e0
            cases hc : nbeq a.cls 2
            · rw [hc, bi_false, beq_false.2 hsn, bi_false] at e0
              have := lor_bit (m := sn) (i := a.i) (j := a.i)
              rw [e0] at this
              simp at this
            · rw [hc, bi_true] at e0
              have := pow_bit (i := a.i) (j := a.i)
              rw [e0] at this
              simp at this
          obtain ⟨j, h3, h4⟩ := hs hne b hb
          refine ⟨j, h3, ?_⟩
          rcases h4 with h4 | ⟨b', hb', e4⟩
          · cases hc : nbeq a.cls 2
            · rw [hc, bi_false, beq_false.2 hsn, bi_false] at h4
              rcases lor_bit.1 h4 with h5 | h5
              · exact .inl h5
              · exact .inr ⟨a, by simp, h5.symm⟩
            · rw [hc, bi_true] at h4
              exact .inr ⟨a, by simp, (pow_bit.1 h4).symm⟩
          · exact .inr ⟨b', by simp [hb'], e4⟩
    · rw [h0] at h; cases h
theorem pair_ok {a b : DI} (h : pairB a b = true) (hd : a.d ≠ 512) :
    (a.d ∈ b.rd → b.dm.testBit a.i = true ∨ (a.cls = 2 ∧ (a.dm.testBit b.i = true ∨ a.i = b.i))) ∧ (a.i ≠ b.i → a.d ≠ b.d) := by
  unfold pairB at h
  rw [beq_false.2 hd, bi_false] at h
  obtain ⟨h1, h2⟩ := bi_and.1 h
  refine ⟨fun hm => ?_, fun hne e => ?_⟩
  · rw [memT_iff.2 hm, bi_true, bi_or, testB_eq] at h1
    rcases h1 with h1 | h1
    · exact .inl h1
    · obtain ⟨h3, h4⟩ := bi_and.1 h1
      rw [bi_or, testB_eq, beq_true] at h4
      exact .inr ⟨beq_true.1 h3, h4⟩
  · rw [beq_false.2 hne, bi_false, nb_true, beq_false] at h2
    exact h2 e
theorem dmOf_bit {l : List Edge} {j : Nat} : (dmOf l).testBit j = true ↔ ∃ e ∈ l, Region.binds .any e = true ∧ e.on = j := by
  induction l with
  | nil => simp [dmOf]
  | cons e l ih =>
    unfold dmOf
    cases hb : Region.binds .any e
    · rw [bi_false, ih]
      simp [hb]
    · rw [bi_true]
      show (2 ^ e.on ||| dmOf l).testBit j = true ↔ _
      rw [Nat.testBit_or, Bool.or_eq_true, Nat.testBit_two_pow, ih]
      simp [hb]
theorem chk_mem {S : Nat → Prop} (l : List DI) (hcl : ∀ b ∈ l, S b.i → ∀ j, b.dm.testBit j = true → S j) : ∀ E, (∀ j, E.testBit j = true → S j) → ∀ b ∈ l, b.cls = 0 → ¬ S b.i → b ∈ chk l E := by
  induction l with
  | nil => intro E _ b hb; cases hb
  | cons a l ih =>
    intro E hE b hb hc hn
    have ih := ih (fun b hb => hcl b (List.mem_cons_of_mem _ hb))
    show b ∈ bi (testB E a.i) (chk l (Nat.lor E a.dm)) (bi (nbeq a.cls 0) (a :: chk l E) (chk l E))
    cases ht : testB E a.i
    · rw [bi_false]
      cases hb with
      | head => rw [beq_true.2 hc]; exact List.mem_cons_self
      | tail _ hb =>
        have := ih E hE b hb hc hn
        cases nbeq a.cls 0
        · exact this
        · exact List.mem_cons_of_mem _ this
    · rw [bi_true]
      have hS := hE _ (by rw [← testB_eq]; exact ht)
      cases hb with
      | head => exact absurd hS hn
      | tail _ hb =>
        refine ih _ (fun j hj => ?_) b hb hc hn
        have hj : (E ||| a.dm).testBit j = true := hj
        rw [Nat.testBit_or, Bool.or_eq_true] at hj
        rcases hj with hj | hj
        · exact hE j hj
        · exact hcl a List.mem_cons_self hS j hj
theorem chk_sub {l : List DI} : ∀ {E : Nat}, ∀ b ∈ chk l E, b ∈ l ∧ b.cls = 0 := by
  induction l with
  | nil => intro E b hb; cases hb
  | cons a l ih =>
    intro E b hb
    have hb : b ∈ bi (testB E a.i) (chk l (Nat.lor E a.dm)) (bi (nbeq a.cls 0) (a :: chk l E) (chk l E)) := hb
    cases ht : testB E a.i
    · rw [ht, bi_false] at hb
      cases hc : nbeq a.cls 0
      · rw [hc] at hb
        exact ⟨List.mem_cons_of_mem _ (ih b hb).1, (ih b hb).2⟩
      · rw [hc, bi_true] at hb
        cases hb with
        | head => exact ⟨List.mem_cons_self, beq_true.1 hc⟩
        | tail _ hb => exact ⟨List.mem_cons_of_mem _ (ih b hb).1, (ih b hb).2⟩
    · rw [ht, bi_true] at hb
      exact ⟨List.mem_cons_of_mem _ (ih b hb).1, (ih b hb).2⟩
section sched
variable {P : Program} {N : Nat} {all : Array Oper}
theorem pickD_mem {c dn : Nat} {l : List DI} {a : DI} (h : pickD c dn l = some a) : a ∈ l := by
  induction l with
  | nil => cases h
  | cons b l ih =>
    have h : bi (nbeq b.cls c) (bi (testB dn b.i) (pickD c dn l) (bi (subB b.dm dn) (some b) (pickD c dn l))) (pickD c dn l) = some a := h
    cases h1 : nbeq b.cls c
    · rw [h1] at h; exact List.mem_cons_of_mem _ (ih h)
    · rw [h1, bi_true] at h
      cases h2 : testB dn b.i
      · rw [h2, bi_false] at h
        cases h3 : subB b.dm dn
        · rw [h3] at h; exact List.mem_cons_of_mem _ (ih h)
        · rw [h3] at h; cases h; exact List.mem_cons_self
      · rw [h2] at h; exact List.mem_cons_of_mem _ (ih h)
theorem nextD_mem {dn : Nat} {l : List DI} {a : DI} (h : nextD dn l = some a) : a ∈ l := by
  unfold nextD at h
  cases h1 : pickD 1 dn l with
  | some x => rw [h1] at h; cases h; exact pickD_mem h1
  | none =>
    rw [h1, om_none] at h
    cases h2 : pickD 0 dn l with
    | some x => rw [h2] at h; cases h; exact pickD_mem h2
    | none => rw [h2, om_none] at h; exact pickD_mem h
theorem sched_mem {l : List DI} (fuel : Nat) : ∀ dn, ∀ a ∈ schedD fuel l dn, a ∈ l := by
  induction fuel with
  | zero => intro dn a ha; cases ha
  | succ n ih =>
    intro dn a ha
    have ha : a ∈ om (nextD dn l) [] fun a => a :: schedD n l (Nat.lor dn (Nat.pow 2 a.i)) := ha
    cases h : nextD dn l with
    | none => rw [h] at ha; cases ha
    | some b =>
      rw [h, om_some] at ha
      cases ha with
      | head => exact nextD_mem h
      | tail _ ha => exact ih _ a ha
theorem disOf_mem {l : List Oper} : ∀ {i : Nat}, ∀ a ∈ disOf P N all i l, ∃ o, l[a.i - i]? = some o ∧ i ≤ a.i ∧ a = diOf P N all a.i o := by
  induction l with
  | nil => intro i a ha; cases ha
  | cons o l ih =>
    intro i a ha
    cases ha with
    | head => exact ⟨o, by simp [diOf], Nat.le_refl _, rfl⟩
    | tail _ ha =>
      obtain ⟨o', h1, h2, h3⟩ := ih a ha
      refine ⟨o', ?_, by omega, h3⟩
      have : a.i - i = (a.i - Nat.succ i) + 1 := by omega
      rw [this]; simpa using h1
/-- what the looks say of the order -/
structure OrdOk (P : Program) (N : Nat) (all : Array Oper) (ord : List DI) : Prop where
  mem : ∀ b ∈ ord, ∃ o, all[b.i]? = some o ∧ b = diOf P N all b.i o
  topo : Topo (Nat.pred (Nat.pow 2 all.size)) ord 0
  ok : ∀ b ∈ ord, b.ok = true
  pair : ∀ a ∈ ord, ∀ b ∈ ord, pairB a b = true
theorem ord_ok (h : okD all.size (schedD all.size (disOf P N all 0 all.toList) 0) = true) : OrdOk P N all (schedD all.size (disOf P N all 0 all.toList) 0) := by
  unfold okD at h
  obtain ⟨h1, h⟩ := bi_and.1 h
  obtain ⟨h2, h3⟩ := bi_and.1 h
  rw [allL_eq, List.all_eq_true] at h2 h3
  refine ⟨fun b hb => ?_, (topo_ok _ _ _ h1).1, fun b hb => (bi_and.1 (h2 b hb)).1, fun a ha b hb => ?_⟩
  · obtain ⟨o, e1, _, e2⟩ := disOf_mem b (sched_mem _ _ b hb)
    exact ⟨o, by simpa using e1, e2⟩
  · have := h3 a ha
    rw [allL_eq, List.all_eq_true] at this
    exact this b hb
end sched
end Go.Eng
