
/- A part of the proof that the evaluator in GnC, and the driver in GnZ, answer as the model does; no conditions. -/
import Derived.Test.YtfmoohdaimlggaaGreatDoorGnL
namespace Go.Eng
open Go.RowKit
variable {P : Program} {w0 : World}

/-! ### code -/
section code
variable {ro : Option Nat} {r : Rec} {N : Nat} {H0 H : Hp} {φ0 φ : Ph} {L : RL} {T : Fr} {a : Act} {w : World} {k : BR}
theorem ops_on {ops : Array Oper} (hrec : RecOk P r) (hL : AllOk L) (n : Nat) : ∀ (i : Nat) (T : Fr) (H : Hp) (φ : Ph) (a : Act) (w : World), i + n = ops.size → St P w0 N H0 φ0 T H φ a w →
    (∀ x ∈ (opsK P N ops (ops.toList.drop i) k).run r T H, x ∈ L) → wpOpsIn (fen ro) 0 P ops (QK P w0 r N H0 φ0 L k) (List.range' i n) a w := by
  induction n with
  | zero =>
    intro i T H φ a w hi hs h
    rw [List.drop_of_length_le (by simp; omega)] at h
    exact ⟨T, H, φ, hs, h⟩
  | succ n ih =>
    intro i T H φ a w hi hs h
    have hlt : i < ops.size := by omega
    have hd : ops.toList.drop i = ops[i] :: ops.toList.drop (i + 1) := by
      rw [List.drop_eq_getElem_cons (by simpa using hlt)]; simp
    rw [hd] at h
    have ho : ops[i]? = some ops[i] := by simp [hlt]
    rw [List.range'_succ]
    simp only [wpOpsIn, ho]
    have key := opG_on (ro := ro) (P := P) (all := ops) (o := ops[i]) (k := opsK P N ops (ops.toList.drop (i + 1)) k) (Q := QK P w0 r N H0 φ0 L k) hrec hL hs h
    have hnext : ∀ a w, On P w0 r N H0 φ0 L (opsK P N ops (ops.toList.drop (i + 1)) k) a w → wpOpsIn (fen ro) 0 P ops (QK P w0 r N H0 φ0 L k) (List.range' (i + 1) n) a w := by
      rintro a w ⟨T, H, φ, h1, h2⟩
      exact ih (i + 1) T H φ a w (by omega) h1 h2
    split
    · rename_i hw
      rw [if_pos hw] at key
      exact Oper.wpIn_mono hnext key
    · rename_i hw
      rw [if_neg hw] at key
      exact ⟨fun _ _ => trivial, hnext _ _ key⟩
theorem region_on {id : Nat} {ops : Array Oper} (hrec : RecOk P r) (hL : AllOk L) (hs : St P w0 N H0 φ0 T H φ a w) (h : ∀ x ∈ (opsK P N ops ops.toList k).run r T H, x ∈ L) :
    (Code.region id ops false).wpIn (fen ro) 0 P (QK P w0 r N H0 φ0 L k) a w := by
  refine wpIn_region ?_
  rw [List.range_eq_range']
  exact ops_on hrec hL _ 0 T H φ a w (by omega) hs h
theorem draw_on {id : Nat} {ops : Array Oper} (hm : P.follows .mixedOrders = true) (hrec : RecOk P r) (hL : AllOk L) (hs : St P w0 N H0 φ0 T H φ a w) (h : ∀ x ∈ (drawK P N ops k).run r T H, x ∈ L) :
    (Code.region id ops true).wpIn (fen ro) 0 P (QK P w0 r N H0 φ0 L k) a w := draw_wp hm hrec hL hs h fun _ _ h => h
theorem wpIn_scope_straight {F : Fence} {n : Nat} {c : Code} {Q : Exit → Act → World → Prop} (h : c.wpIn F n P (Exit.noGoto Q) a w) : (Code.scope c).wpIn F n P Q a w := by
  intro b k cs hro hb hr
  have h0 : (lone (b.atR a (.code (.scope c) :: k)) cs w).fenced P F := fenced_calm hb hr rfl
  have s0 : step P (lone (b.atR a (.code (.scope c) :: k)) cs w) = .next (lone (b.atR a (.code c :: .inScope c :: k)) cs w) := step_lone_go (by simp [stepG, stepG.exec, Frame.atR])
  have s1 : ∀ a w, step P (lone (b.atR a (.inScope c :: k)) cs w) = .next (lone (b.atR a k) cs w) := fun a w => step_lone_go (by simp [stepG, stepG.exec, Frame.atR])
  obtain ⟨e, a₁, w₁, hq, harr⟩ := h b (.inScope c :: k) cs hro hb hr
  cases e with
  | normal => exact ⟨.normal, a₁, w₁, hq, .head h0 s0 (StepsIn.trans harr (.one (fenced_calm hb hr rfl) (s1 a₁ w₁)))⟩
  | exit id => exact ⟨.exit id, a₁, w₁, hq, fun k' hk => .head h0 s0 (harr.1 k' (by simp [exitTo, hk])), fun hr' hk => by
      obtain ⟨k₁, e1, e2⟩ := harr.2 hr' (by simp [exitTo, hk])
      exact ⟨k₁, e1, .head h0 s0 e2⟩⟩
  | goto l => exact hq.elim
  | ret => exact ⟨_, a₁, w₁, hq, .of_steps (.one h0 s0) harr⟩
  | panic ch => exact ⟨_, a₁, w₁, hq, .of_steps (.one h0 s0) harr⟩
  | outgrown => exact ⟨_, a₁, w₁, hq, .of_steps (.one h0 s0) harr⟩
theorem least {p : Nat → Prop} (h : ∃ n, p n) : ∃ n, p n ∧ ∀ m, p m → n ≤ m := by
  obtain ⟨n, hn⟩ := h
  induction n using Nat.strongRecOn with
  | _ n ih =>
    by_cases hm : ∃ m, m < n ∧ p m
    · obtain ⟨m, h1, h2⟩ := hm; exact ih m h1 h2
    · exact ⟨n, hn, fun m h => Nat.le_of_not_lt fun hlt => hm ⟨m, hlt, h⟩⟩
theorem loop_on {c : Code} {b : Run} (hL : AllOk L)
    (hb : ∀ (L' : RL) (T : Fr) (H : Hp) (φ : Ph) (a : Act) (w : World), AllOk L' → St P w0 N H0 φ0 T H φ a w → (∀ x ∈ b r T H, x ∈ L') → c.wpIn (fen ro) 0 P (QK P w0 r N H0 φ0 L' normK) a w)
    (n : Nat) (hs : St P w0 N H0 φ0 T H φ a w) (h : ∀ x ∈ loopR b r n T H, x ∈ L) : (Code.loop c).wpIn (fen ro) 0 P (QK P w0 r N H0 φ0 L k) a w := by
  let J : Nat → Act → World → Prop := fun n a w => ∃ T H φ, St P w0 N H0 φ0 T H φ a w ∧ ∀ x ∈ loopR b r n T H, x ∈ L
  let μ : Act → World → Nat := fun a w => (Classical.propDecidable (∃ n, J n a w)).byCases (fun h => Classical.choose (least h)) (fun _ => 0)
  have hμ : ∀ a w, (∃ n, J n a w) → J (μ a w) a w ∧ ∀ m, J m a w → μ a w ≤ m := by
    intro a w he
    have : μ a w = Classical.choose (least he) := by
      show (Classical.propDecidable (∃ n, J n a w)).byCases _ _ = _
      cases Classical.propDecidable (∃ n, J n a w) with
      | isTrue h => rfl
      | isFalse h => exact absurd he h
    rw [this]
    exact Classical.choose_spec (least he)
  refine wpIn_loop (fun a w => ∃ n, J n a w) μ ⟨n, T, H, φ, hs, h⟩ ?_
  intro a w he
  obtain ⟨hJ, _⟩ := hμ a w he
  generalize hm : μ a w = m at hJ
  obtain ⟨T, H, φ, hs, hr⟩ := hJ
  cases m with
  | zero => exact (failR_sub hL hr).elim
  | succ m =>
    have hmem : ∀ x ∈ b r T H, ∀ y ∈ bi (nbeq x.tag 0) (loopR b r m x.T x.H) [x], y ∈ L := fun x hx y hy => hr y (mem_fmL.2 ⟨x, hx, hy⟩)
    have hother : ∀ x ∈ b r T H, x.tag ≠ 0 → x ∈ L := fun x hx ht => by
      have := hmem x hx
      rw [beq_false.2 ht] at this
      exact this x (List.mem_singleton.2 rfl)
    have hok : AllOk (b r T H) := fun x hx ht => hL x (hother x hx (by omega)) ht
    refine wpIn_mono (hb _ T H φ a w hok hs fun _ h => h) ?_
    intro e a' w' hq
    cases e with
    | normal =>
      obtain ⟨T', H', φ', h1, h2⟩ := hq
      have hJ' : J m a' w' := ⟨T', H', φ', h1, fun y hy => hmem _ (h2 _ (List.mem_singleton.2 rfl)) y hy⟩
      exact ⟨⟨m, hJ'⟩, Nat.lt_of_le_of_lt ((hμ a' w' ⟨m, hJ'⟩).2 m hJ') (by omega)⟩
    | exit i => obtain ⟨x, hx, h1, h2⟩ := hq; exact ⟨x, hother x hx (by omega), h1, h2⟩
    | ret => obtain ⟨x, hx, h1, h2⟩ := hq; exact ⟨x, hother x hx (by omega), h1, h2⟩
    | goto l => exact hq.elim
    | panic ch => exact hq.elim
    | outgrown => exact hq.elim
theorem comp_sound {f : Nat} (hm : P.follows .mixedOrders = true) (hrec : RecOk P r) (hro : InRo ro H0 φ0) (c : Code) : ∀ (rp : List Nat) (k : BR) (L : RL) (T : Fr) (H : Hp) (φ : Ph) (a : Act) (w : World), At P N f rp c → AllOk L → St P w0 N H0 φ0 T H φ a w →
    (∀ x ∈ (comp P N ro.isSome f rp c k).run r T H, x ∈ L) → c.wpIn (fen ro) 0 P (QK P w0 r N H0 φ0 L k) a w := by
  induction c with
  | skip => exact fun rp k L T H φ a w hat hL hs h => wpIn_skip ⟨T, H, φ, hs, h⟩
  | label l => exact fun rp k L T H φ a w hat hL hs h => wpIn_label ⟨T, H, φ, hs, h⟩
  | ret => exact fun rp k L T H φ a w hat hL hs h => wpIn_ret ⟨_, h _ (List.mem_singleton.2 rfl), rfl, φ, hs⟩
  | exit i => exact fun rp k L T H φ a w hat hL hs h => wpIn_exit ⟨_, h _ (List.mem_singleton.2 rfl), rfl, rfl, φ, hs⟩
  | region id ops draw =>
    intro rp k L T H φ a w hat hL hs h
    cases draw with
    | false => exact region_on hrec hL hs h
    | true => exact draw_on hm hrec hL hs h
  | seq x y ihx ihy =>
    intro rp k L T H φ a w hat hL hs h
    refine wpIn_seq (wpIn_mono (ihx (0 :: rp) (comp P N ro.isSome f (1 :: rp) y k) L T H φ a w (hat.kid rfl) hL hs h) ?_)
    intro e a' w' hq
    cases e with
    | normal => obtain ⟨T', H', φ', h1, h2⟩ := hq; exact ihy (1 :: rp) k L T' H' φ' a' w' (hat.kid rfl) hL h1 h2
    | _ => exact hq
  | cond c x y ihx ihy =>
    intro rp k L T H φ a w hat hL hs h
    have h' : ∀ z ∈ bi (nbeq ((getO P c).run T).tag 8) (bi (nbeq ((getO P c).run T).p 1) ((comp P N ro.isSome f (0 :: rp) x k).run r T H) ((comp P N ro.isSome f (1 :: rp) y k).run r T H))
      (bi (bi (nbeq ((getO P c).run T).tag 23) (nbeq ((getO P c).run T).p 1) false) (appL ((comp P N ro.isSome f (0 :: rp) x k).run r T H) ((comp P N ro.isSome f (1 :: rp) y k).run r T H)) (failR 50)), z ∈ L := h
    cases h8 : nbeq ((getO P c).run T).tag 8
    · rw [h8, bi_false] at h'
      cases h23 : bi (nbeq ((getO P c).run T).tag 23) (nbeq ((getO P c).run T).p 1) false
      · rw [h23] at h'; exact (failR_sub hL h').elim
      rw [h23, bi_true, appL_eq] at h'
      obtain ⟨g1, g2⟩ := bi_and.1 h23
      obtain ⟨⟨hb, _⟩, _⟩ := (hs.tr.eval c).of_opq (beq_true.1 g1)
      obtain ⟨b, e⟩ := hb (beq_true.1 g2)
      cases b with
      | true => exact wpIn_cond_true e (ihx (0 :: rp) k L T H φ a w (hat.kid rfl) hL hs fun z hz => h' z (List.mem_append_left _ hz))
      | false => exact wpIn_cond_false e (ihy (1 :: rp) k L T H φ a w (hat.kid rfl) hL hs fun z hz => h' z (List.mem_append_right _ hz))
    · rw [h8, bi_true] at h'
      obtain ⟨b, e, hp, _⟩ := (hs.tr.eval c).of_bool (beq_true.1 h8)
      rw [hp] at h'
      cases b with
      | true => exact wpIn_cond_true e (ihx (0 :: rp) k L T H φ a w (hat.kid rfl) hL hs h')
      | false => exact wpIn_cond_false e (ihy (1 :: rp) k L T H φ a w (hat.kid rfl) hL hs h')
  | block i c ih =>
    intro rp k L T H φ a w hat hL hs h
    have hmem : ∀ x ∈ (comp P N ro.isSome f (0 :: rp) c normK).run r T H, ∀ y ∈ bi (bi (nbeq x.tag 0) true (bi (nbeq x.tag 1) (nbeq x.i i) false)) (k.run r x.T x.H) [x], y ∈ L := fun x hx y hy => h y (mem_fmL.2 ⟨x, hx, hy⟩)
    have hother : ∀ x ∈ (comp P N ro.isSome f (0 :: rp) c normK).run r T H, x.tag ≠ 0 → (x.tag = 1 → x.i ≠ i) → x ∈ L := fun x hx ht hi => by
      have := hmem x hx
      rw [beq_false.2 ht, bi_false] at this
      by_cases h1 : x.tag = 1
      · rw [beq_true.2 h1, bi_true, beq_false.2 (hi h1)] at this
        exact this x (List.mem_singleton.2 rfl)
      · rw [beq_false.2 h1] at this
        exact this x (List.mem_singleton.2 rfl)
    have hok : AllOk ((comp P N ro.isSome f (0 :: rp) c normK).run r T H) := fun x hx ht => hL x (hother x hx (by omega) (by omega)) ht
    refine wpIn_block (wpIn_mono (ih (0 :: rp) normK _ T H φ a w (hat.kid rfl) hok hs fun _ h => h) ?_)
    intro e a' w' hq
    cases e with
    | normal =>
      obtain ⟨T', H', φ', h1, h2⟩ := hq
      exact ⟨T', H', φ', h1, fun y hy => hmem _ (h2 _ (List.mem_singleton.2 rfl)) y hy⟩
    | exit j =>
      obtain ⟨x, hx, h1, h2, φ', h3⟩ := hq
      by_cases hji : j = i
      · simp only [Exit.inBlock, hji, if_true]
        refine ⟨x.T, x.H, φ', h3, fun y hy => hmem x hx y ?_⟩
        rw [beq_false.2 (by omega), bi_false, beq_true.2 h1, bi_true, beq_true.2 (by omega)]
        exact hy
      · simp only [Exit.inBlock, hji, if_false]
        exact ⟨x, hother x hx (by omega) (by omega), h1, h2, φ', h3⟩
    | ret => obtain ⟨x, hx, h1, h2⟩ := hq; exact ⟨x, hother x hx (by omega) (by omega), h1, h2⟩
    | goto l => exact hq.elim
    | panic ch => exact hq.elim
    | outgrown => exact hq.elim
  | loop c ih =>
    intro rp k L T H φ a w hat hL hs h
    exact loop_on hL (fun L' T H φ a w hL' hs' h' => ih (0 :: rp) normK L' T H φ a w (hat.kid rfl) hL' hs' h') loopMax hs h
  | scope c ih =>
    intro rp k L T H φ a w hat hL hs h
    refine wpIn_scope_straight (wpIn_mono (ih (0 :: rp) k L T H φ a w (hat.kid rfl) hL hs h) ?_)
    intro e a' w' hq
    cases e with
    | goto l => exact hq.elim
    | _ => exact hq
  | rangeFunc g ps as body => exact fun rp k L T H φ a w hat hL hs h => rangeFunc_on hat hro hrec hL hs h
  | _ => intro rp k L T H φ a w hat hL hs h; exact (failR_sub hL h).elim
end code
end Go.Eng
