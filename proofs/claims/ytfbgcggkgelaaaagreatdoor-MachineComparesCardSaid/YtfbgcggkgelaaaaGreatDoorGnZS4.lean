/- A part of the proof that the evaluator in GnC, and the driver in GnZ, answer as the model does; no conditions. -/
import Derived.Test.YtfbgcggkgelaaaaGreatDoorGnZS3
namespace Go.Eng
open Go.RowKit
variable {P : Program} {w0 : World} {H Hb : Hp} {φ φ0 : Ph} {w : World} {N : Nat} {T : Fr} {a : Act} {lab : Lab} {r : Rec} {fin : BR} {top : Code} {L : RL}

theorem know_st {o : Operand} {b : Bool} (hs : St P w0 N Hb φ0 T H φ a w) (h8 : ((getO P o).run T).tag = 8) (hp : ((getO P o).run T).p = bi b 1 0) : St P w0 N Hb φ0 (knowO o b T) H φ a w :=
  ⟨know_tr hs.tr h8 hp, hs.hr, hs.ex⟩
theorem opY_on {o : Oper} {k : BR} {Q : Exit → Act → World → Prop} (hrec : RecOk P r) (hL : AllOk L) (hs : St P w0 N Hb φ0 T H φ a w) (h : ∀ x ∈ (opY P N o k).run r T H, x ∈ L) :
    o.wpIn (fen none) 0 P a w (On P w0 r N Hb φ0 L k) Q := by
  by_cases hpk : ∃ x y z, o.op = .pick x y z
  · obtain ⟨x, y, z, ho⟩ := hpk
    simp only [opY, ho] at h
    cases h8 : nbeq ((getO P x).run T).tag 8
    · rw [h8] at h; exact (failR_sub hL h).elim
    rw [h8, bi_true] at h
    have h8 := beq_true.1 h8
    obtain ⟨b, e, hp, _⟩ := (hs.tr.eval x).of_bool h8
    have hrun : (execOp a.eval o).run P w = .ok (.value (if b then a.eval y else a.eval z)) w := by
      simp only [execOp, ho, e]
      cases b <;> simp [asBool]
    refine ⟨fun _ _ => trivial, ?_⟩
    rw [Oper.semAt_eq _ _ _ (fun c hc => by rw [ho] at hc; cases hc), hrun, Oper.uponIn_value]
    have hks := know_st (b := b) hs h8 hp
    rw [hp] at h
    cases b with
    | true => exact putK_on hL hks.tr (hs.tr.eval y) hs.hr hs.ex h
    | false => exact putK_on hL hks.tr (hs.tr.eval z) hs.hr hs.ex h
  · have e : opY P N o k = opK P N o k := by
      unfold opY
      split
      · rename_i x y z ho; exact absurd ⟨x, y, z, ho⟩ hpk
      · rfl
    rw [e] at h
    exact opK_on hrec hL hs h
theorem opGY_on {all : Array Oper} {o : Oper} {k : BR} {Q : Exit → Act → World → Prop} (hrec : RecOk P r) (hL : AllOk L) (hs : St P w0 N Hb φ0 T H φ a w) (h : ∀ x ∈ (opGY P N all o k).run r T H, x ∈ L) :
    if Region.wanted o (yielded all a.tmps) then o.wpIn (fen none) 0 P a w (On P w0 r N Hb φ0 L k) Q else On P w0 r N Hb φ0 L k (a.put o.dst undef) w := by
  unfold opGY at h
  cases hg : o.guard with
  | none =>
    rw [hg] at h
    simp only [Region.wanted, hg, if_true]
    exact opY_on hrec hL hs h
  | some jw =>
    obtain ⟨j, want⟩ := jw
    rw [hg] at h
    simp only [] at h
    cases hd : (all[j]?).bind (·.dst) with
    | none => rw [hd] at h; exact (failR_sub hL h).elim
    | some d =>
      rw [hd] at h
      simp only [] at h
      cases hb : nble (Nat.succ d) N
      · rw [hb] at h; exact (failR_sub hL h).elim
      rw [hb, bi_true] at h
      have hy := yielded_of hd hs.tr (ble_true.1 hb)
      have hv := hs.tr.val d
      simp only [Region.wanted, hg]
      simp only [] at h
      cases h8 : nbeq ((getB d).run T).tag 8
      · rw [h8, bi_false] at h
        cases h19 : nbeq ((getB d).run T).tag 19
        · rw [h19] at h; exact (failR_sub hL h).elim
        · rw [h19, bi_true] at h
          have e := hv.of_ud (beq_true.1 h19)
          rw [e] at hy
          rw [hy]
          simp only [undef]
          exact putK_on hL hs.tr (.ud _ _ _ _ _) hs.hr hs.ex h
      · rw [h8, bi_true] at h
        have h8 := beq_true.1 h8
        obtain ⟨b, e, hp, _⟩ := hv.of_bool h8
        rw [e] at hy
        rw [hy]
        have hbw : nbeq ((getB d).run T).p (bi want 1 0) = (some b == some want) := by
          rw [hp]; cases b <;> cases want <;> rfl
        rw [hbw] at h
        cases hw : (some b == some want)
        · rw [hw] at h
          have hbn : b = nb want := by cases b <;> cases want <;> first | rfl | cases hw
          have hks := know_st (o := .tmp d) (b := nb want) hs h8 (by rw [← hbn]; exact hp)
          exact putK_on hL hks.tr (.ud _ _ _ _ _) hs.hr hs.ex h
        · rw [hw] at h
          have hbn : b = want := by cases b <;> cases want <;> first | rfl | cases hw
          have hks := know_st (o := .tmp d) (b := want) hs h8 (by rw [← hbn]; exact hp)
          exact opY_on hrec hL hks h
theorem opsY_on {ops : Array Oper} {k : BR} (hrec : RecOk P r) (hL : AllOk L) (n : Nat) : ∀ (i : Nat) (T : Fr) (H : Hp) (φ : Ph) (a : Act) (w : World), i + n = ops.size → St P w0 N Hb φ0 T H φ a w →
    (∀ x ∈ (opsY P N ops (ops.toList.drop i) k).run r T H, x ∈ L) → wpOpsIn (fen none) 0 P ops (QK P w0 r N Hb φ0 L k) (List.range' i n) a w := by
  induction n with
  | zero =>
    intro i T H φ a w hi hs h
    rw [List.drop_of_length_le (by simp; omega)] at h
    exact ⟨T, H, φ, hs, h⟩
  | succ n ih =>
    intro i T H φ a w hi hs h
    have hlt : i < ops.size := by omega
    have hd : ops.toList.drop i = ops[i] :: ops.toList.drop (i + 1) := by
      rw [List.drop_eq_getElem_cons (by simpa using hlt)]; simp
    rw [hd] at h
    have ho : ops[i]? = some ops[i] := by simp [hlt]
    rw [List.range'_succ]
    simp only [wpOpsIn, ho]
    have key := opGY_on (P := P) (all := ops) (o := ops[i]) (k := opsY P N ops (ops.toList.drop (i + 1)) k) (Q := QK P w0 r N Hb φ0 L k) hrec hL hs h
    have hnext : ∀ a w, On P w0 r N Hb φ0 L (opsY P N ops (ops.toList.drop (i + 1)) k) a w → wpOpsIn (fen none) 0 P ops (QK P w0 r N Hb φ0 L k) (List.range' (i + 1) n) a w := by
      rintro a w ⟨T, H, φ, h1, h2⟩
      exact ih (i + 1) T H φ a w (by omega) h1 h2
    split
    · rename_i hw
      rw [if_pos hw] at key
      exact Oper.wpIn_mono hnext key
    · rename_i hw
      rw [if_neg hw] at key
      exact ⟨fun _ _ => trivial, hnext _ _ key⟩
theorem qk_qyy {n m : Nat} {k : Nat → BR} {ks : Nat → List (Nat × BR)} (h5 : ∀ x ∈ L, x.tag = 5) (hm : m ≤ n) : ∀ (e : Exit) (a : Act) (w : World), QK P w0 r N Hb φ0 L (k m) e a w → QYY P w0 r N Hb φ0 L fin n k ks e a w := by
  intro e a w h
  cases e with
  | normal => exact On.y hm h
  | exit i => obtain ⟨x, hx, h1, _⟩ := h; have := h5 x hx; omega
  | ret => obtain ⟨x, hx, h1, _⟩ := h; have := h5 x hx; omega
  | _ => exact h.elim
section sound
variable (hm : P.follows .mixedOrders = true) (hrec : RecOk P r) (hL : AllOk L) (h5 : ∀ x ∈ L, x.tag = 5) (hb : BaseY P w0 Hb φ0)
include hm hrec hL h5 hb
theorem compY_sound (c : Code) : ∀ (rp : List Nat) (k : Nat → BR) (ks : Nat → List (Nat × BR)), (∀ n, ctxAt P N lab fin top (jmpN P N lab Hb r fin top n) rp = some ⟨c, k n, ks n⟩) →
    ∀ (n : Nat) (T : Fr) (H : Hp) (φ : Ph) (a : Act) (w : World), St P w0 N Hb φ0 T H φ a w → (∀ x ∈ (compY P N lab fin (jmpN P N lab Hb r fin top n) rp c (k n) (ks n)).run r T H, x ∈ L) →
    c.wpIn (fen none) 0 P (QYY P w0 r N Hb φ0 L fin n k ks) a w := by
  induction c with
  | skip => exact fun rp k ks hat n T H φ a w hs h => wpIn_skip ⟨n, Nat.le_refl _, T, H, φ, hs, h⟩
  | label l => exact fun rp k ks hat n T H φ a w hs h => wpIn_label ⟨n, Nat.le_refl _, T, H, φ, hs, h⟩
  | ret => exact fun rp k ks hat n T H φ a w hs h => wpIn_ret ⟨n, Nat.le_refl _, T, H, φ, hs, h⟩
  | exit i => exact fun rp k ks hat n T H φ a w hs h => wpIn_exit ⟨n, Nat.le_refl _, T, H, φ, hs, h⟩
  | region id ops draw =>
    intro rp k ks hat n T H φ a w hs h
    cases draw with
    | false =>
      refine wpIn_mono ?_ (qk_qyy h5 (Nat.le_refl n))
      refine wpIn_region ?_
      rw [List.range_eq_range']
      exact opsY_on hrec hL _ 0 T H φ a w (by omega) hs h
    | true => exact wpIn_mono (draw_on hm hrec hL hs h) (qk_qyy h5 (Nat.le_refl n))
  | seq x y ihx ihy =>
    intro rp k ks hat n T H φ a w hs h
    have hatx : ∀ n, ctxAt P N lab fin top (jmpN P N lab Hb r fin top n) (0 :: rp) = some ⟨x, atY P lab (jmpN P N lab Hb r fin top n) (1 :: rp) (compY P N lab fin (jmpN P N lab Hb r fin top n) (1 :: rp) y (k n) (ks n)), ks n⟩ := fun n => by
      show om (ctxAt P N lab fin top (jmpN P N lab Hb r fin top n) rp) none _ = _
      rw [hat n]; rfl
    have haty : ∀ n, ctxAt P N lab fin top (jmpN P N lab Hb r fin top n) (1 :: rp) = some ⟨y, k n, ks n⟩ := fun n => by
      show om (ctxAt P N lab fin top (jmpN P N lab Hb r fin top n) rp) none _ = _
      rw [hat n]; rfl
    refine wpIn_seq (wpIn_mono (ihx (0 :: rp) _ ks hatx n T H φ a w hs h) ?_)
    intro e a' w' hq
    cases e with
    | normal =>
      obtain ⟨m, hm1, T', H', φ', h1, h2⟩ := hq
      cases hl : lab (1 :: rp) with
      | none =>
        have e1 : atY P lab (jmpN P N lab Hb r fin top m) (1 :: rp) (compY P N lab fin (jmpN P N lab Hb r fin top m) (1 :: rp) y (k m) (ks m)) = compY P N lab fin (jmpN P N lab Hb r fin top m) (1 :: rp) y (k m) (ks m) := by
          unfold atY; rw [hl]; rfl
        have h2' : ∀ z ∈ (atY P lab (jmpN P N lab Hb r fin top m) (1 :: rp) (compY P N lab fin (jmpN P N lab Hb r fin top m) (1 :: rp) y (k m) (ks m))).run r T' H', z ∈ L := h2
        rw [e1] at h2'
        exact wpIn_mono (ihy (1 :: rp) k ks haty m T' H' φ' a' w' h1 h2') (QYY.mono hm1)
      | some live =>
        have e1 : atY P lab (jmpN P N lab Hb r fin top m) (1 :: rp) (compY P N lab fin (jmpN P N lab Hb r fin top m) (1 :: rp) y (k m) (ks m)) = jumpY P lab (jmpN P N lab Hb r fin top m) (1 :: rp) := by
          unfold atY; rw [hl]; rfl
        have h2' : ∀ z ∈ (atY P lab (jmpN P N lab Hb r fin top m) (1 :: rp) (compY P N lab fin (jmpN P N lab Hb r fin top m) (1 :: rp) y (k m) (ks m))).run r T' H', z ∈ L := h2
        rw [e1] at h2'
        obtain ⟨m', rfl, T2, H2, φ2, g1, g2⟩ := jump_ok hL hb haty h1 h2'
        exact wpIn_mono (ihy (1 :: rp) k ks haty m' T2 H2 φ2 a' w' g1 g2) (QYY.mono (by omega))
    | _ => exact hq
  | cond c x y ihx ihy =>
    intro rp k ks hat n T H φ a w hs h
    have hatx : ∀ n, ctxAt P N lab fin top (jmpN P N lab Hb r fin top n) (0 :: rp) = some ⟨x, k n, ks n⟩ := fun n => by
      show om (ctxAt P N lab fin top (jmpN P N lab Hb r fin top n) rp) none _ = _
      rw [hat n]; rfl
    have haty : ∀ n, ctxAt P N lab fin top (jmpN P N lab Hb r fin top n) (1 :: rp) = some ⟨y, k n, ks n⟩ := fun n => by
      show om (ctxAt P N lab fin top (jmpN P N lab Hb r fin top n) rp) none _ = _
      rw [hat n]; rfl
    have h' : ∀ z ∈ bi (nbeq ((getO P c).run T).tag 8) (bi (nbeq ((getO P c).run T).p 1) ((compY P N lab fin (jmpN P N lab Hb r fin top n) (0 :: rp) x (k n) (ks n)).run r (knowO c true T) H) ((compY P N lab fin (jmpN P N lab Hb r fin top n) (1 :: rp) y (k n) (ks n)).run r (knowO c false T) H)) (failR 245), z ∈ L := h
    cases h8 : nbeq ((getO P c).run T).tag 8
    · rw [h8] at h'; exact (failR_sub hL h').elim
    · rw [h8, bi_true] at h'
      have h8 := beq_true.1 h8
      obtain ⟨b, e, hp, _⟩ := (hs.tr.eval c).of_bool h8
      have hks := know_st (b := b) hs h8 hp
      rw [hp] at h'
      cases b with
      | true => exact wpIn_cond_true e (ihx (0 :: rp) k ks hatx n _ H φ a w hks h')
      | false => exact wpIn_cond_false e (ihy (1 :: rp) k ks haty n _ H φ a w hks h')
  | block i c ih =>
    intro rp k ks hat n T H φ a w hs h
    have hatc : ∀ n, ctxAt P N lab fin top (jmpN P N lab Hb r fin top n) (0 :: rp) = some ⟨c, k n, (i, k n) :: ks n⟩ := fun n => by
      show om (ctxAt P N lab fin top (jmpN P N lab Hb r fin top n) rp) none _ = _
      rw [hat n]; rfl
    refine wpIn_block (wpIn_mono (ih (0 :: rp) k (fun n => (i, k n) :: ks n) hatc n T H φ a w hs h) ?_)
    intro e a' w' hq
    cases e with
    | normal => exact hq
    | exit j =>
      obtain ⟨m, hm1, T', H', φ', h1, h2⟩ := hq
      have h2' : ∀ z ∈ (bi (nbeq i j) (k m) (exitY j (ks m))).run r T' H', z ∈ L := h2
      by_cases hji : j = i
      · simp only [Exit.inBlock, hji, if_true]
        rw [beq_true.2 hji.symm, bi_true] at h2'
        exact ⟨m, hm1, T', H', φ', h1, h2'⟩
      · simp only [Exit.inBlock, hji, if_false]
        rw [beq_false.2 (Ne.symm hji), bi_false] at h2'
        exact ⟨m, hm1, T', H', φ', h1, h2'⟩
    | ret => exact hq
    | goto l => exact hq.elim
    | panic ch => exact hq.elim
    | outgrown => exact hq.elim
  | loop c ih =>
    intro rp k ks hat n T H φ a w hs h
    have hatc : ∀ n, ctxAt P N lab fin top (jmpN P N lab Hb r fin top n) (0 :: rp) = some ⟨c, jumpY P lab (jmpN P N lab Hb r fin top n) (0 :: rp), ks n⟩ := fun n => by
      show om (ctxAt P N lab fin top (jmpN P N lab Hb r fin top n) rp) none _ = _
      rw [hat n]; rfl
    let J : Nat → Act → World → Prop := fun m a w => m ≤ n ∧ ∃ T H φ, St P w0 N Hb φ0 T H φ a w ∧ ∀ x ∈ (jumpY P lab (jmpN P N lab Hb r fin top m) (0 :: rp)).run r T H, x ∈ L
    let μ : Act → World → Nat := fun a w => (Classical.propDecidable (∃ n, J n a w)).byCases (fun h => Classical.choose (least h)) (fun _ => 0)
    have hμ : ∀ a w, (∃ n, J n a w) → J (μ a w) a w ∧ ∀ m, J m a w → μ a w ≤ m := by
      intro a w he
      have : μ a w = Classical.choose (least he) := by
        show (Classical.propDecidable (∃ n, J n a w)).byCases _ _ = _
        cases Classical.propDecidable (∃ n, J n a w) with
        | isTrue h => rfl
        | isFalse h => exact absurd he h
      rw [this]
      exact Classical.choose_spec (least he)
    refine wpIn_loop (fun a w => ∃ n, J n a w) μ ⟨n, Nat.le_refl _, T, H, φ, hs, h⟩ ?_
    intro a w he
    obtain ⟨hJ, _⟩ := hμ a w he
    generalize hme : μ a w = m at hJ
    obtain ⟨hmn, T, H, φ, hs, hr⟩ := hJ
    obtain ⟨m', rfl, T', H', φ', g1, g2⟩ := jump_ok hL hb hatc hs hr
    refine wpIn_mono (ih (0 :: rp) _ ks hatc m' T' H' φ' a w g1 g2) ?_
    intro e a' w' hq
    cases e with
    | normal =>
      obtain ⟨m2, hm2, T2, H2, φ2, k1, k2⟩ := hq
      have hJ' : J m2 a' w' := ⟨by omega, T2, H2, φ2, k1, k2⟩
      exact ⟨⟨m2, hJ'⟩, Nat.lt_of_le_of_lt ((hμ a' w' ⟨m2, hJ'⟩).2 m2 hJ') (by omega)⟩
    | exit i => exact OnY.mono (by omega) hq
    | ret => exact OnY.mono (by omega) hq
    | goto l => exact hq.elim
    | panic ch => exact hq.elim
    | outgrown => exact hq.elim
  | scope c ih =>
    intro rp k ks hat n T H φ a w hs h
    have hatc : ∀ n, ctxAt P N lab fin top (jmpN P N lab Hb r fin top n) (0 :: rp) = some ⟨c, k n, ks n⟩ := fun n => by
      show om (ctxAt P N lab fin top (jmpN P N lab Hb r fin top n) rp) none _ = _
      rw [hat n]; rfl
    refine wpIn_scope_straight (wpIn_mono (ih (0 :: rp) k ks hatc n T H φ a w hs h) ?_)
    intro e a' w' hq
    cases e with
    | goto l => exact hq.elim
    | _ => exact hq
  | _ => intro rp k ks hat n T H φ a w hs h; exact (failR_sub hL h).elim
end sound
end Go.Eng
