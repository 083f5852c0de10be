/- A part of the proof that the evaluator in EngC answers as the model does; no conditions. -/
import Derived.Test.YtnghikjbjlmpaaaGreatDoorEngD5
namespace Go.Eng
open Go.RowKit
variable {P : Program} {w0 : World}

/-! ### code -/
section code
variable {r : Rec} {N : Nat} {H0 H : Hp} {φ0 φ : Ph} {L : RL} {T : Fr} {a : Act} {w : World} {k : BR}
def QK (w0 : World) (r : Rec) (N : Nat) (H0 : Hp) (φ0 : Ph) (L : RL) (k : BR) : Exit → Act → World → Prop
  | .normal, a, w => On w0 r N H0 φ0 L k a w
  | .exit i, a, w => ∃ x ∈ L, x.tag = 1 ∧ x.i = i ∧ ∃ φ, St w0 N H0 φ0 x.T x.H φ a w
  | .ret, a, w => ∃ x ∈ L, x.tag = 2 ∧ ∃ φ, St w0 N H0 φ0 x.T x.H φ a w
  | _, _, _ => False
theorem ops_on {ops : Array Oper} (hrec : RecOk P r) (hL : AllOk L) (n : Nat) : ∀ (i : Nat) (T : Fr) (H : Hp) (φ : Ph) (a : Act) (w : World), i + n = ops.size → St w0 N H0 φ0 T H φ a w →
    (∀ x ∈ (opsK P N ops (ops.toList.drop i) k).run r T H, x ∈ L) → wpOps P ops (QK w0 r N H0 φ0 L k) (List.range' i n) a w := by
  induction n with
  | zero =>
    intro i T H φ a w hi hs h
    rw [List.drop_of_length_le (by simp; omega)] at h
    exact ⟨T, H, φ, hs, h⟩
  | succ n ih =>
    intro i T H φ a w hi hs h
    have hlt : i < ops.size := by omega
    have hd : ops.toList.drop i = ops[i] :: ops.toList.drop (i + 1) := by
      rw [List.drop_eq_getElem_cons (by simpa using hlt)]; simp
    rw [hd] at h
    have ho : ops[i]? = some ops[i] := by simp [hlt]
    rw [List.range'_succ]
    simp only [wpOps, ho]
    have key := opG_on (P := P) (all := ops) (o := ops[i]) (k := opsK P N ops (ops.toList.drop (i + 1)) k) (Q := QK w0 r N H0 φ0 L k) hrec hL hs h
    have hnext : ∀ a w, On w0 r N H0 φ0 L (opsK P N ops (ops.toList.drop (i + 1)) k) a w → wpOps P ops (QK w0 r N H0 φ0 L k) (List.range' (i + 1) n) a w := by
      rintro a w ⟨T, H, φ, h1, h2⟩
      exact ih (i + 1) T H φ a w (by omega) h1 h2
    split
    · rename_i hw
      rw [if_pos hw] at key
      exact key.imp (Oper.wp_mono hnext) id
    · rename_i hw
      rw [if_neg hw] at key
      exact hnext _ _ key
theorem region_on {id : Nat} {ops : Array Oper} (hrec : RecOk P r) (hL : AllOk L) (hs : St w0 N H0 φ0 T H φ a w) (h : ∀ x ∈ (opsK P N ops ops.toList k).run r T H, x ∈ L) :
    (Code.region id ops false).wp P (QK w0 r N H0 φ0 L k) a w := by
  refine wp_region ?_
  rw [List.range_eq_range']
  exact ops_on hrec hL _ 0 T H φ a w (by omega) hs h
theorem draw_on {id : Nat} {ops : Array Oper} (hm : P.follows .mixedOrders = true) (hrec : RecOk P r) (hL : AllOk L) (hs : St w0 N H0 φ0 T H φ a w) (h : ∀ x ∈ (drawK P N ops k).run r T H, x ∈ L) :
    (Code.region id ops true).wp P (QK w0 r N H0 φ0 L k) a w := draw_wp hm hrec hL hs h fun _ _ h => h
theorem least {p : Nat → Prop} (h : ∃ n, p n) : ∃ n, p n ∧ ∀ m, p m → n ≤ m := by
  obtain ⟨n, hn⟩ := h
  induction n using Nat.strongRecOn with
  | _ n ih =>
    by_cases hm : ∃ m, m < n ∧ p m
    · obtain ⟨m, h1, h2⟩ := hm; exact ih m h1 h2
    · exact ⟨n, hn, fun m h => Nat.le_of_not_lt fun hlt => hm ⟨m, hlt, h⟩⟩
theorem loop_on {c : Code} {b : Run} (hL : AllOk L)
    (hb : ∀ (L' : RL) (T : Fr) (H : Hp) (φ : Ph) (a : Act) (w : World), AllOk L' → St w0 N H0 φ0 T H φ a w → (∀ x ∈ b r T H, x ∈ L') → c.wp P (QK w0 r N H0 φ0 L' normK) a w)
    (n : Nat) (hs : St w0 N H0 φ0 T H φ a w) (h : ∀ x ∈ loopR b r n T H, x ∈ L) : (Code.loop c).wp P (QK w0 r N H0 φ0 L k) a w := by
  let J : Nat → Act → World → Prop := fun n a w => ∃ T H φ, St w0 N H0 φ0 T H φ a w ∧ ∀ x ∈ loopR b r n T H, x ∈ L
  let μ : Act → World → Nat := fun a w => (Classical.propDecidable (∃ n, J n a w)).byCases (fun h => Classical.choose (least h)) (fun _ => 0)
  have hμ : ∀ a w, (∃ n, J n a w) → J (μ a w) a w ∧ ∀ m, J m a w → μ a w ≤ m := by
    intro a w he
    have : μ a w = Classical.choose (least he) := by
      show (Classical.propDecidable (∃ n, J n a w)).byCases _ _ = _
      cases Classical.propDecidable (∃ n, J n a w) with
      | isTrue h => rfl
      | isFalse h => exact absurd he h
    rw [this]
    exact Classical.choose_spec (least he)
  refine wp_loop (fun a w => ∃ n, J n a w) μ ⟨n, T, H, φ, hs, h⟩ ?_
  intro a w he
  obtain ⟨hJ, _⟩ := hμ a w he
  generalize hm : μ a w = m at hJ
  obtain ⟨T, H, φ, hs, hr⟩ := hJ
  cases m with
  | zero => exact (failR_sub hL hr).elim
  | succ m =>
    have hmem : ∀ x ∈ b r T H, ∀ y ∈ bi (Nat.beq x.tag 0) (loopR b r m x.T x.H) [x], y ∈ L := fun x hx y hy => hr y (mem_fmL.2 ⟨x, hx, hy⟩)
    have hother : ∀ x ∈ b r T H, x.tag ≠ 0 → x ∈ L := fun x hx ht => by
      have := hmem x hx
      rw [beq_false.2 ht] at this
      exact this x (List.mem_singleton.2 rfl)
    have hok : AllOk (b r T H) := fun x hx ht => hL x (hother x hx (by omega)) ht
    refine wp_mono (hb _ T H φ a w hok hs fun _ h => h) ?_
    intro e a' w' hq
    cases e with
    | normal =>
      obtain ⟨T', H', φ', h1, h2⟩ := hq
      have hJ' : J m a' w' := ⟨T', H', φ', h1, fun y hy => hmem _ (h2 _ (List.mem_singleton.2 rfl)) y hy⟩
      exact ⟨⟨m, hJ'⟩, Nat.lt_of_le_of_lt ((hμ a' w' ⟨m, hJ'⟩).2 m hJ') (by omega)⟩
    | exit i => obtain ⟨x, hx, h1, h2⟩ := hq; exact ⟨x, hother x hx (by omega), h1, h2⟩
    | ret => obtain ⟨x, hx, h1, h2⟩ := hq; exact ⟨x, hother x hx (by omega), h1, h2⟩
    | goto l => exact hq.elim
    | panic ch => exact hq.elim
    | outgrown => exact hq.elim
theorem comp_sound (hm : P.follows .mixedOrders = true) (hrec : RecOk P r) (c : Code) : ∀ (k : BR) (L : RL) (T : Fr) (H : Hp) (φ : Ph) (a : Act) (w : World), AllOk L → St w0 N H0 φ0 T H φ a w →
    (∀ x ∈ (comp P N c k).run r T H, x ∈ L) → c.wp P (QK w0 r N H0 φ0 L k) a w := by
  induction c with
  | skip => exact fun k L T H φ a w hL hs h => wp_skip ⟨T, H, φ, hs, h⟩
  | label l => exact fun k L T H φ a w hL hs h => wp_label ⟨T, H, φ, hs, h⟩
  | ret => exact fun k L T H φ a w hL hs h => wp_ret ⟨_, h _ (List.mem_singleton.2 rfl), rfl, φ, hs⟩
  | exit i => exact fun k L T H φ a w hL hs h => wp_exit ⟨_, h _ (List.mem_singleton.2 rfl), rfl, rfl, φ, hs⟩
  | region id ops draw =>
    intro k L T H φ a w hL hs h
    cases draw with
    | false => exact region_on hrec hL hs h
    | true => exact draw_on hm hrec hL hs h
  | seq x y ihx ihy =>
    intro k L T H φ a w hL hs h
    refine wp_seq (wp_mono (ihx (comp P N y k) L T H φ a w hL hs h) ?_)
    intro e a' w' hq
    cases e with
    | normal => obtain ⟨T', H', φ', h1, h2⟩ := hq; exact ihy k L T' H' φ' a' w' hL h1 h2
    | _ => exact hq
  | cond c x y ihx ihy =>
    intro k L T H φ a w hL hs h
    have h' : ∀ z ∈ bi (Nat.beq ((getO c).run T).tag 8) (bi (Nat.beq ((getO c).run T).p 1) ((comp P N x k).run r T H) ((comp P N y k).run r T H)) (failR 50), z ∈ L := h
    cases h8 : Nat.beq ((getO c).run T).tag 8
    · rw [h8] at h'; exact (failR_sub hL h').elim
    · rw [h8, bi_true] at h'
      obtain ⟨b, e, hp, _⟩ := (hs.tr.eval c).of_bool (beq_true.1 h8)
      rw [hp] at h'
      cases b with
      | true => exact wp_cond_true e (ihx k L T H φ a w hL hs h')
      | false => exact wp_cond_false e (ihy k L T H φ a w hL hs h')
  | block i c ih =>
    intro k L T H φ a w hL hs h
    have hmem : ∀ x ∈ (comp P N c normK).run r T H, ∀ y ∈ bi (bi (Nat.beq x.tag 0) true (bi (Nat.beq x.tag 1) (Nat.beq x.i i) false)) (k.run r x.T x.H) [x], y ∈ L := fun x hx y hy => h y (mem_fmL.2 ⟨x, hx, hy⟩)
    have hother : ∀ x ∈ (comp P N c normK).run r T H, x.tag ≠ 0 → (x.tag = 1 → x.i ≠ i) → x ∈ L := fun x hx ht hi => by
      have := hmem x hx
      rw [beq_false.2 ht, bi_false] at this
      by_cases h1 : x.tag = 1
      · rw [beq_true.2 h1, bi_true, beq_false.2 (hi h1)] at this
        exact this x (List.mem_singleton.2 rfl)
      · rw [beq_false.2 h1] at this
        exact this x (List.mem_singleton.2 rfl)
    have hok : AllOk ((comp P N c normK).run r T H) := fun x hx ht => hL x (hother x hx (by omega) (by omega)) ht
    refine wp_block (wp_mono (ih normK _ T H φ a w hok hs fun _ h => h) ?_)
    intro e a' w' hq
    cases e with
    | normal =>
      obtain ⟨T', H', φ', h1, h2⟩ := hq
      exact ⟨T', H', φ', h1, fun y hy => hmem _ (h2 _ (List.mem_singleton.2 rfl)) y hy⟩
    | exit j =>
      obtain ⟨x, hx, h1, h2, φ', h3⟩ := hq
      by_cases hji : j = i
      · simp only [Exit.inBlock, hji, if_true]
        refine ⟨x.T, x.H, φ', h3, fun y hy => hmem x hx y ?_⟩
        rw [beq_false.2 (by omega), bi_false, beq_true.2 h1, bi_true, beq_true.2 (by omega)]
        exact hy
      · simp only [Exit.inBlock, hji, if_false]
        exact ⟨x, hother x hx (by omega) (by omega), h1, h2, φ', h3⟩
    | ret => obtain ⟨x, hx, h1, h2⟩ := hq; exact ⟨x, hother x hx (by omega) (by omega), h1, h2⟩
    | goto l => exact hq.elim
    | panic ch => exact hq.elim
    | outgrown => exact hq.elim
  | loop c ih =>
    intro k L T H φ a w hL hs h
    exact loop_on hL (fun L' T H φ a w hL' hs' h' => ih normK L' T H φ a w hL' hs' h') loopMax hs h
  | scope c ih =>
    intro k L T H φ a w hL hs h
    refine wp_scope_straight (wp_mono (ih k L T H φ a w hL hs h) ?_)
    intro e a' w' hq
    cases e with
    | goto l => exact hq.elim
    | _ => exact hq
  | _ => intro k L T H φ a w hL hs h; exact (failR_sub hL h).elim
end code
end Go.Eng
