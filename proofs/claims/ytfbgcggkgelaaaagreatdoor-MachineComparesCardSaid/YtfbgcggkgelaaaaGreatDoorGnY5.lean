/- A part of the proof that the evaluator in GnC, and the driver in GnZ, answer as the model does; no conditions. -/
import Derived.Test.YtfbgcggkgelaaaaGreatDoorGnS15
import Derived.Test.YtfbgcggkgelaaaaGreatDoorGnY4
namespace Go.Eng
open Go.RowKit
variable {P : Program} {w0 : World} {H : Hp} {φ : Ph} {c : Kont} {w : World} {z : Nat → Option (List Value)}

/-! ### values taken out for good -/
/-- a list that nobody writes to any more -/
theorem HR.frz {b : Nat} (h : HR P w0 H φ w) (hb : b < H.n) (hL : isL (hget H b) = true) : HR P w0 (frzB H b) φ w := by
  have hn := h.n
  unfold frzB
  refine ⟨?_, ?_, h.n, h.lim, h.below, h.gl, h.op, ?_, ?_, h.fo⟩
  · intro b' x hb'
    obtain ⟨h1, h2, o, h3, h4⟩ := h.blk b' x hb'
    refine ⟨h1, h2, o, h3, ?_⟩
    rw [hget_hset (by omega) (by omega)]
    by_cases he : b = b'
    · subst he
      rw [if_pos rfl]
      have hk : (hget H b).kind = 6 ∨ (hget H b).kind = 7 := by
        rcases bi_or.1 hL with e | e
        · exact .inl (beq_true.1 e)
        · exact .inr (beq_true.1 e)
      rcases h4.ext (by omega) with ⟨e, _⟩ | ⟨e, _⟩ | ⟨_, l, rest, t, fr, rfl, g2, g3, g4, g5⟩
      · omega
      · omega
      · exact ⟨(fun h => by cases h), (fun h => by cases h), (fun h => by cases h), fun _ => .inr (.inr ⟨.inr rfl, l, rest, t, fr, rfl, g2, g3, (fun h => by cases h), g5⟩)⟩
    · rw [if_neg he]; exact h4
  · intro b1 b2 x e1 e2 k1 k2
    have l1 := (h.blk _ _ e1).1; have l2 := (h.blk _ _ e2).1
    have key : ∀ b1, b1 < H.n → (hget (hset H b ⟨7, (hget H b).t, (hget H b).e, (hget H b).cs⟩) b1).kind ≠ 0 → (hget H b1).kind ≠ 0 := by
      intro b1 hb1 hk1
      rw [hget_hset (by omega) (by omega)] at hk1
      by_cases he : b = b1
      · subst he
        intro h0
        rcases bi_or.1 hL with e | e <;> (have := beq_true.1 e; omega)
      · rw [if_neg he] at hk1; exact hk1
    exact h.inj b1 b2 x e1 e2 (key b1 l1 k1) (key b2 l2 k2)
  · intro x C hx
    refine ⟨(h.fz x C hx).1, fun b' hb' hl => ?_⟩
    have l1 := (h.blk _ _ hb').1
    rw [hget_hset (by omega) (by omega)]
    by_cases he : b = b'
    · rw [if_pos he]; exact .inr rfl
    · rw [if_neg he]; exact (h.fz x C hx).2 b' hb' hl
  · intro b' x hb' hk
    have l1 := (h.blk _ _ hb').1
    rw [hget_hset (by omega) (by omega)] at hk ⊢
    by_cases he : b = b'
    · subst he
      rw [if_pos rfl]
      refine h.tl b x hb' ?_
      rcases bi_or.1 hL with e | e
      · exact .inl (beq_true.1 e)
      · exact .inr (beq_true.1 e)
    · rw [if_neg he] at hk ⊢; exact h.tl b' x hb' hk
theorem EX.frz {b : Nat} (h : HR P w0 H φ w) (hb : b < H.n) (hl : H.lim ≤ b) (hL : isL (hget H b) = true) : EX H φ (frzB H b) φ := by
  have hn := h.n
  refine ⟨Le.refl φ, fun b x h h' => (by rw [h] at h'; cases h'), Nat.le_refl _, rfl, ?_, ?_, ?_, fun _ _ h => .inl h⟩
  · intro k h1 h2; unfold frzB; rw [hget_hset (by omega) h2, if_neg (by omega)]
  · intro k h1 h2 h3; unfold frzB; rw [hget_hset (by omega) (by omega), ]
    split
    · rename_i e
      subst e
      have h7 : (hget H b).kind = 7 := by
        rcases bi_or.1 hL with e | e
        · exact absurd (beq_true.1 e) h3
        · exact beq_true.1 e
      rw [← h7]
    · rfl
  · intro k h1 h2 h3
    unfold frzB
    rw [hget_hset (by omega) h2]
    split
    · rename_i e; subst e
      rcases bi_or.1 hL with e | e <;> (have := beq_true.1 e; omega)
    · exact h3
/-- a block is entered among those that nobody writes to -/
theorem HR.addfz {x : Nat} {C : List Value} {t : TypeId} {fr : Nat × Nat} (h : HR P w0 H φ w) (hx0 : w0.heap.size ≤ x) (ho : w.heap[x]? = some (.cells C.toArray t fr)) (hd : ∀ b, φ b = some x → (H.lim ≤ b ∨ (hget H b).kind = 0) ∧ ((hget H b).kind = 0 ∨ (hget H b).kind = 7)) :
    ∃ φ' : Ph, HR P w0 H φ' w ∧ EX H φ H φ' ∧ φ'.fz x = some C ∧ φ'.f = φ.f := by
  let φ' : Ph := ⟨φ.f, φ.k, φ.op, fun y => if y = x then some C else φ.fz y, φ.tl⟩
  have hle : Le φ φ' := by
    refine ⟨fun b y hb => ⟨hb, rfl⟩, rfl, fun y D hy => ?_, fun _ _ _ => rfl⟩
    show (if y = x then some C else φ.fz y) = some D
    by_cases e : y = x
    · subst e
      obtain ⟨⟨t', fr', h1⟩, _⟩ := h.fz y D hy
      rw [ho] at h1
      have h2 := Option.some.inj h1
      injection h2 with h2 _ _
      rw [if_pos rfl]
      congr 1
      simpa using h2
    · rw [if_neg e]; exact hy
  refine ⟨φ', ⟨?_, h.inj, h.n, h.lim, h.below, h.gl, h.op, ?_, h.tl, ?_⟩, ⟨hle, fun b y hb hn => (by have hb' : φ b = some y := hb; rw [hb'] at hn; cases hn), Nat.le_refl _, rfl, fun _ _ _ => rfl, fun _ _ _ _ => rfl, fun _ _ _ h => h, ?_⟩, if_pos rfl, rfl⟩
  · intro b y hb
    obtain ⟨h1, h2, o, h3, h4⟩ := h.blk b y hb
    exact ⟨h1, h2, o, h3, h4.mono hle rfl⟩
  · intro y D hy
    have hy' : (if y = x then some C else φ.fz y) = some D := hy
    by_cases e : y = x
    · rw [if_pos e] at hy'; cases hy'
      subst e
      exact ⟨⟨t, fr, ho⟩, fun b hb hl => (hd b hb).2⟩
    · rw [if_neg e] at hy'; exact h.fz y D hy'
  · intro y D hy
    have hy' : (if y = x then some C else φ.fz y) = some D := hy
    by_cases e : y = x
    · exact .inl (e ▸ hx0)
    · rw [if_neg e] at hy'; exact h.fo y D hy'
  · intro y D hy
    have hy' : (if y = x then some C else φ.fz y) = some D := hy
    by_cases e : y = x
    · exact .inr fun b _ hb => (hd b (e ▸ hb)).1
    · rw [if_neg e] at hy'; exact .inl hy'
/-- what freezing a value promises -/
structure Frz (P : Program) (w0 w : World) (H : Hp) (φ : Ph) (H' : Hp) (φ' : Ph) : Prop where
  hr : HR P w0 H' φ' w
  ex : EX H φ H' φ'
  f : φ'.f = φ.f
  n : H'.n = H.n
  dead : ∀ b, b < H.n → (hget H b).kind = 0 → (hget H' b).kind = 0
theorem Frz.refl (h : HR P w0 H φ w) : Frz P w0 w H φ H φ := ⟨h, EX.refl H φ, rfl, rfl, fun _ _ h => h⟩
theorem Frz.trans {H1 H2 : Hp} {φ1 φ2 : Ph} (a : Frz P w0 w H φ H1 φ1) (b : Frz P w0 w H1 φ1 H2 φ2) : Frz P w0 w H φ H2 φ2 :=
  ⟨b.hr, a.ex.trans b.ex, b.f.trans a.f, b.n.trans a.n, fun x hx hk => b.dead x (by rw [a.n]; exact hx) (a.dead x hx hk)⟩

theorem cells_one {c : AV} {v : Value} (h : FZ z c v) (ho : okCell c = true) : cellsOk c = true ∧ cellsOf c = [c] := by
  refine ⟨by unfold cellsOk; rw [ho]; rfl, ?_⟩
  unfold cellsOf
  rw [show nbeq c.tag 15 = false from beq_false.2 (by rcases okCell_tag ho with h | h | h <;> omega)]; rfl
def FrzE (P : Program) (w0 : World) (f : TypeId → Nat → List AV → Hp → Option (List AV × Hp)) : Prop := ∀ (e : TypeId) (n : Nat) (cells : List AV) (H : Hp) (es : List AV) (H' : Hp), f e n cells H = some (es, H') → ∀ (sz : Nat), (szB P e).run = some sz → ∀ (φ : Ph) (w : World) (vals : List Value), HR P w0 H φ w → VRs φ cells vals →
  ∃ φ', Frz P w0 w H φ H' φ' ∧ FZs φ'.fz (flatL es) vals ∧ es.length = n ∧ ∀ c ∈ es, cellsOk c = true ∧ (cellsOf c).length = sz
theorem isNil_tag {a : AV} {n : Nat} (h : isNil a n = true) : a.tag = 17 ∧ a.p = n := by
  obtain ⟨h1, h2⟩ := bi_and.1 (show bi (nbeq a.tag 17) (nbeq a.p n) false = true from h)
  exact ⟨beq_true.1 h1, beq_true.1 h2⟩
theorem frzC_ok {ih : TypeId → Nat → List AV → Hp → Option (List AV × Hp)} (hih : FrzE P w0 ih) {t : TypeId} {c c' : AV} {H H' : Hp} (h : frzC P ih t c H = some (c', H')) {φ : Ph} {w : World} {v : Value} (hr : HR P w0 H φ w) (hv : VR φ c v) :
    ∃ φ', Frz P w0 w H φ H' φ' ∧ FZ φ'.fz c' v ∧ okCell c' = true := by
  have scal : om (kTag P t) none (fun k => bi (nbeq c.tag k) (some (canC k c, H)) none) = some (c', H') → (∀ e, (tyB P t).run ≠ some (.slice e)) → ∃ φ', Frz P w0 w H φ H' φ' ∧ FZ φ'.fz c' v ∧ okCell c' = true := by
    intro h hns
    obtain ⟨k, hk, h⟩ := om_none' h
    obtain ⟨ht, h⟩ := bi_none' h
    cases h
    have h9 : k ≤ 9 := by
      unfold kTag at hk
      split at hk <;> first | (cases hk; done) | skip
      · rename_i k' _; cases hk; cases k' <;> simp [kCode]
      · cases hk; omega
      · cases hk; omega
      · rename_i e he; exact absurd he (hns e)
    have htag : tagIs k c = true := by
      unfold tagIs; rw [ble_false.2 (by omega), bi_false]; exact ht
    refine ⟨φ, Frz.refl hr, hv.can (.inl h9) htag, ?_⟩
    unfold canC
    by_cases h8 : k ≤ 8
    · rw [ble_true.2 h8, bi_true]; unfold okCell mk1; rw [ble_true.2 (show k ≤ 14 by omega)]; rfl
    · have : k = 9 := by omega
      subst this; rfl
  unfold frzC at h
  split at h
  · rename_i e ht
    obtain ⟨sz, hsz, h⟩ := om_none' h
    cases h24 : nbeq c.tag 24
    · rw [h24, bi_false] at h
      cases hn : isNil c 1
      · rw [hn, bi_false] at h
        cases h25 : nbeq c.tag 25
        · rw [h25, bi_false] at h
          obtain ⟨h11, h⟩ := bi_none' h
          obtain ⟨hk1, h⟩ := bi_none' h
          obtain ⟨_, h⟩ := bi_none' h
          obtain ⟨hr5, h⟩ := bi_none' h
          obtain ⟨cells, hcl, h⟩ := om_none' h
          obtain ⟨⟨es, H2⟩, hes, h⟩ := om_none' h
          obtain ⟨hlim, h⟩ := bi_none' h
          cases h
          have hlim := ble_true.1 hlim
          obtain ⟨x, cap, rfl, hx, hc1, hc2, _⟩ := hv.of_sl (beq_true.1 h11)
          obtain ⟨hcn, hcb, o, ho, hB⟩ := hr.blk _ _ hx
          obtain ⟨l, rest, t', rfl, hl, h1, _⟩ := hB.cells (beq_true.1 hk1)
          rw [dropL_eq] at hcl
          obtain ⟨hlen, rfl⟩ := takeL_some hcl
          have hn1 := hr.n
          have hsub := (hl.drop c.q).take (Nat.mul c.r sz)
          obtain ⟨φ1, hf, hfz, hel, hec⟩ := hih e c.r _ _ _ _ hes sz hsz φ w _ (hr.kill hcn) hsub
          have hfr : Frz P w0 w H φ (hset H c.p noB) φ := ⟨hr.kill hcn, EX.kill hr hx hlim (by have := beq_true.1 hk1; omega), rfl, rfl, fun b hb hk => by
            rw [hget_hset (by omega) (by omega)]; split
            · rfl
            · exact hk⟩
          have hf2 := hfr.trans hf
          have hd : ∀ b, φ1 b = some x → (H2.lim ≤ b ∨ (hget H2 b).kind = 0) ∧ ((hget H2 b).kind = 0 ∨ (hget H2 b).kind = 7) := by
            intro b hb
            rw [hf2.f] at hb
            obtain ⟨g1, g2, _⟩ := hr.blk b x hb
            have hbz : (hget (hset H c.p noB) b).kind = 0 := by
              rw [hget_hset (by omega) (by omega)]
              by_cases he : c.p = b
              · rw [if_pos he]; rfl
              · rw [if_neg he]
                cases hz : decide ((hget H b).kind = 0) with
                | true => exact of_decide_eq_true hz
                | false => exact absurd (hr.inj _ _ _ hx hb (by have := beq_true.1 hk1; omega) (of_decide_eq_false hz)) he
            exact ⟨.inr (hf.dead b g1 hbz), .inl (hf.dead b g1 hbz)⟩
          obtain ⟨φ2, hr2, hex2, hz2, hf3⟩ := hf2.hr.addfz (hcb hlim) ho hd
          refine ⟨φ2, hf2.trans ⟨hr2, hex2, hf3, rfl, fun _ _ h => h⟩, ?_, rfl⟩
          have hfz2 := hfz.mono hex2.keep.fz
          by_cases h0 : c.r = 0
          · have : es = [] := List.length_eq_zero_iff.1 (by rw [hel]; exact h0)
            rw [this, h0]
            exact .empty 0 sz _ cap
          · have e1 : c.r = es.length := hel.symm
            have hvl : ((l.drop c.q).take (Nat.mul c.r sz)).length = Nat.mul c.r sz := by
              rw [List.length_take, List.length_drop]
              rw [List.length_drop, hl.length] at hlen
              omega
            have hsl := FZ.sl (z := φ2.fz) 0 sz 0 es x c.q cap _ _ hz2 hfz2 hec (by omega) (fun h => by cases h) (by have := ble_true.1 hr5; omega) ?_ (by omega)
            · rw [hel] at hsl; exact hsl
            · rw [hvl, List.drop_append, List.take_append]
              have : Nat.mul c.r sz - (l.drop c.q).length = 0 := by
                rw [List.length_drop]
                rw [List.length_drop, hl.length] at hlen
                omega
              rw [this]; simp
        · rw [h25, bi_true] at h
          obtain ⟨hlim, h⟩ := bi_none' h
          obtain ⟨hL, h⟩ := bi_none' h
          obtain ⟨hts, h⟩ := bi_none' h
          cases h
          have htag := beq_true.1 h25
          obtain ⟨hlim, hin⟩ := bi_and.1 hlim
          have hlim := ble_true.1 hlim
          have hin : c.q < H.n := ble_true.1 hin
          have hts := beq_true.1 hts
          rw [takeN_eq]
          have hfr : Frz P w0 w H φ (frzB H c.q) φ := ⟨hr.frz hin hL, EX.frz hr hin hlim hL, rfl, rfl, fun b hb hk => by
            have hn1 := hr.n
            unfold frzB
            rw [hget_hset (by omega) (by omega)]
            split
            · rename_i e; subst e
              rcases bi_or.1 hL with e | e <;> (have := beq_true.1 e; omega)
            · exact hk⟩
          by_cases hr0 : c.r = 0
          · refine ⟨φ, hfr, ?_, rfl⟩
            rw [hr0, List.take_zero]
            cases hv <;> simp only at htag hr0 <;> first | exact .nils 0 sz 0 | exact .empty 0 sz _ _ | (subst hr0; exact .empty 0 sz _ _) | (exact absurd htag (by omega))
          · have hp : c.p = 1 := by
              cases hv <;> first | rfl | exact absurd rfl hr0 | (simp only at htag; omega)
            obtain ⟨x, hx, g1, g2, rfl⟩ := own_of_r hv htag (by omega)
            obtain ⟨l, rest, ty, fr, ho, k1, k2, k3, k4, k5, k6, k7⟩ := hr.list hx hL
            have hn1 := hr.n
            have hk0 : (hget H c.q).kind ≠ 0 := by
              rcases bi_or.1 hL with e | e <;> (have := beq_true.1 e; omega)
            have hd : ∀ b, φ b = some x → ((frzB H c.q).lim ≤ b ∨ (hget (frzB H c.q) b).kind = 0) ∧ ((hget (frzB H c.q) b).kind = 0 ∨ (hget (frzB H c.q) b).kind = 7) := by
              intro b hb
              have g3 := (hr.blk b x hb).1
              unfold frzB
              rw [hget_hset (by omega) (by omega)]
              by_cases he : c.q = b
              · rw [if_pos he]; exact ⟨.inl (he ▸ hlim), .inr rfl⟩
              · rw [if_neg he]
                cases hz : decide ((hget H b).kind = 0) with
                | true => exact ⟨.inr (of_decide_eq_true hz), .inl (of_decide_eq_true hz)⟩
                | false => exact absurd (hr.inj _ _ _ hx hb hk0 (of_decide_eq_false hz)) he
            obtain ⟨φ2, hr2, hex2, hz2, hf3⟩ := hfr.hr.addfz ((hr.blk _ _ hx).2.1 hlim) ho hd
            refine ⟨φ2, hfr.trans ⟨hr2, hex2, hf3, rfl, fun _ _ h => h⟩, ?_, rfl⟩
            have hcl : (hget H c.q).cs.length = φ.tl c.q := k7
            have htl : ((hget H c.q).cs.take c.r).length = c.r := by rw [List.length_take]; omega
            rw [hts] at k2
            have hfz2 : FZs φ2.fz (flatL ((hget H c.q).cs.take c.r)) (l.take (c.r * sz)) := by
              have := (k1.mono hex2.keep.fz).take (c.r * sz)
              rwa [flatL_take k2] at this
            have hll : l.length = (hget H c.q).cs.length * sz := by rw [← k1.length, flatL_len k2]
            have hle : c.r * sz ≤ (hget H c.q).cs.length * sz := Nat.mul_le_mul_right _ (by omega)
            rw [hp]
            have hsl := FZ.sl (z := φ2.fz) 0 sz 0 ((hget H c.q).cs.take c.r) x 0 (φ.k x) _ _ hz2 hfz2 (fun a ha => k2 a (List.mem_of_mem_take ha)) (by omega) (fun h => by cases h) (by omega) ?_ (by omega)
            · rw [htl] at hsl; exact hsl
            · rw [List.drop_zero, List.length_take, Nat.min_eq_left (by omega), List.take_append_of_le_length (by omega)]
      · rw [hn, bi_true] at h
        cases h
        have := hv.isNil hn
        simp only at this; subst this
        exact ⟨φ, Frz.refl hr, .nils 0 sz 0, rfl⟩
    · rw [h24, bi_true] at h
      obtain ⟨hrs, h⟩ := bi_none' h
      cases h
      have := ((hv.of_frz (beq_true.1 h24)).of_sl (beq_true.1 h24)).fz 0 0 (.inl rfl)
      rw [beq_true.1 hrs] at this
      exact ⟨φ, Frz.refl hr, this, rfl⟩
  · obtain ⟨hn, h⟩ := bi_none' h
    cases h
    have := hv.isNil hn
    simp only at this; subst this
    obtain ⟨e1, e2⟩ := isNil_tag hn
    obtain ⟨ct, cp, cq, cr, cS, ccs⟩ := c
    simp only at e1 e2; subst e1 e2
    exact ⟨φ, Frz.refl hr, .nilp _ _ _ _, rfl⟩
  · obtain ⟨hn, h⟩ := bi_none' h
    cases h
    have := hv.isNil hn
    simp only at this; subst this
    obtain ⟨e1, e2⟩ := isNil_tag hn
    obtain ⟨ct, cp, cq, cr, cS, ccs⟩ := c
    simp only at e1 e2; subst e1 e2
    exact ⟨φ, Frz.refl hr, .nilm _ _ _ _, rfl⟩
  · obtain ⟨hn, h⟩ := bi_none' h
    cases h
    have := hv.isNil hn
    simp only at this; subst this
    obtain ⟨e1, e2⟩ := isNil_tag hn
    obtain ⟨ct, cp, cq, cr, cS, ccs⟩ := c
    simp only at e1 e2; subst e1 e2
    exact ⟨φ, Frz.refl hr, .nilf _ _ _ _, rfl⟩
  · rename_i hns _ _ _
    exact scal h (fun e he => hns e he)

theorem frzL_ok {ih : TypeId → Nat → List AV → Hp → Option (List AV × Hp)} (hih : FrzE P w0 ih) : ∀ (ts : List TypeId) (cs : List AV) (H : Hp) (cs' : List AV) (H' : Hp), frzL P ih ts cs H = some (cs', H') → ∀ (φ : Ph) (w : World) (vals : List Value), HR P w0 H φ w → VRs φ cs vals →
    ∃ φ', Frz P w0 w H φ H' φ' ∧ FZs φ'.fz cs' vals ∧ cs'.length = ts.length ∧ ∀ c ∈ cs', okCell c = true := by
  intro ts
  induction ts with
  | nil =>
    intro cs H cs' H' h φ w vals hr hv
    cases cs with
    | nil =>
      have h' : some (([] : List AV), H) = some (cs', H') := h
      cases h'; cases hv
      exact ⟨φ, Frz.refl hr, .nil, rfl, fun c hc => by cases hc⟩
    | cons c cs => cases h
  | cons t ts ihl =>
    intro cs H cs' H' h φ w vals hr hv
    cases cs with
    | nil => cases h
    | cons c cs =>
      have h' : om (frzC P ih t c H) none (fun x => om (frzL P ih ts cs x.2) none fun y => some (x.1 :: y.1, y.2)) = some (cs', H') := h
      obtain ⟨⟨c1, H1⟩, h1, h'⟩ := om_none' h'
      obtain ⟨⟨cs2, H2⟩, h2, h'⟩ := om_none' h'
      cases h'
      cases hv with
      | cons hv1 hv2 =>
        obtain ⟨φ1, f1, z1, o1⟩ := frzC_ok hih h1 hr hv1
        obtain ⟨φ2, f2, z2, l2, o2⟩ := ihl cs H1 cs2 H2 h2 φ1 w _ f1.hr (hv2.mono f1.ex.keep)
        refine ⟨φ2, f1.trans f2, .cons (z1.mono f2.ex.keep.fz) z2, by simp [l2], fun c hc => ?_⟩
        cases hc with
        | head => exact o1
        | tail _ hc => exact o2 c hc
theorem frzE_ok (fuel : Nat) : FrzE P w0 (frzE P fuel) := by
  induction fuel with
  | zero => intro e n cells H es H' h; cases h
  | succ fuel ih =>
    intro e n cells H es H' h sz hsz
    have hdef : ∀ n cells H, frzE P (fuel + 1) e n cells H = (om (cellTs P 20 e) (fun _ _ => none) fun ts => om (szB P e).run (fun _ _ => none) fun sz => bi (bi (nbeq (lenL ts) sz) (bi (isAggT P e) true (nbeq sz 1)) false) (Nat.rec (motive := fun _ => List AV → Hp → Option (List AV × Hp)) (fun cs H => List.rec (motive := fun _ => Option (List AV × Hp)) (some ([], H)) (fun _ _ _ => none) cs)
      (fun _ ihn cs H => om (takeL cs (lenL ts)) none fun x => om (frzL P (frzE P fuel) ts x H) none fun y => om (ihn (dropL cs (lenL ts)) y.2) none fun z => some (elemV (isAggT P e) y.1 :: z.1, z.2)) n) (fun _ _ => none)) cells H := fun _ _ _ => rfl
    rw [hdef] at h
    cases hts : cellTs P 20 e with
    | none => rw [hts] at h; cases h
    | some ts =>
      rw [hts, om_some, hsz, om_some] at h
      cases hc : bi (nbeq (lenL ts) sz) (bi (isAggT P e) true (nbeq sz 1)) false
      · rw [hc] at h; cases h
      rw [hc, bi_true] at h
      obtain ⟨hc1, hc2⟩ := bi_and.1 hc
      have hlt := beq_true.1 hc1
      have hlt' : ts.length = sz := by rwa [lenL_eq] at hlt
      clear hdef
      induction n generalizing cells H es H' with
      | zero =>
        intro φ w vals hr hv
        cases cells with
        | nil =>
          have h' : some (([] : List AV), H) = some (es, H') := h
          cases h'; cases hv
          exact ⟨φ, Frz.refl hr, .nil, rfl, fun c hc => by cases hc⟩
        | cons c cs => cases h
      | succ n ihn =>
        intro φ w vals hr hv
        obtain ⟨x, hx, h⟩ := om_none' h
        obtain ⟨⟨y, H1⟩, hy, h⟩ := om_none' h
        obtain ⟨⟨zs, H2⟩, hz, h⟩ := om_none' h
        cases h
        rw [hlt] at hx hz
        rw [dropL_eq] at hz
        obtain ⟨hl1, rfl⟩ := takeL_some hx
        obtain ⟨φ1, f1, z1, l1, o1⟩ := frzL_ok ih ts _ H y H1 hy φ w _ hr (hv.take sz)
        have hz' := hz
        rw [← dropL_eq, ← hlt] at hz'
        obtain ⟨φ2, f2, z2, l2, o2⟩ := ihn _ H1 zs H2 hz' φ1 w (vals.drop sz) f1.hr (by rw [dropL_eq, hlt]; exact (hv.drop sz).mono f1.ex.keep)
        obtain ⟨e1, e2⟩ := elemV_cells (agg := isAggT P e) o1 (fun h => by
          rw [h, bi_false] at hc2
          rw [l1, hlt']; exact beq_true.1 hc2)
        refine ⟨φ2, f1.trans f2, ?_, by simp [l2], fun c hc => ?_⟩
        · rw [flatL_cons, e2]
          have := (z1.mono f2.ex.keep.fz).append z2
          rwa [List.take_append_drop] at this
        · cases hc with
          | head => exact ⟨e1, by rw [e2, l1, hlt']⟩
          | tail _ hc => exact o2 c hc
end Go.Eng
