/- A part of the proof that the evaluator in GnC, and the driver in GnZ, answer as the model does; no conditions. -/
import Derived.Test.YtfbgcggkgelaaaaGreatDoorGnY2
namespace Go.Eng
open Go.RowKit
variable {P : Program} {w0 : World} {H : Hp} {φ : Ph} {c : Kont} {w : World} {z : Nat → Option (List Value)}

theorem fieldAddrY_out {s : TypeId} {fs : Array Field} {f : Nat} {fd : Field} {sz : Nat} {a : AV} {va : Value} (hs : (tyB P s).run = some (.struct fs)) (hf : fs[f]? = some fd) (hz : (szB P fd.type).run = some sz) (hz0 : sz ≠ 0)
    (ha : VR φ a va) (hr : HR P w0 H φ w) (hok : AllOk ((fieldAddrY fd.offset).run a H c)) :
    Out P w0 (fun v w' => (Instr.fieldAt s va f).run P w = .ok v w') H φ ((fieldAddrY fd.offset).run a H c) c := by
  refine Out.bi2 hok (fun h1 _ => ?_) fun _ hok => Out.bi hok fun h1 _ => ?_
  · obtain ⟨e, x, off, C, l, e1, e2, e3, e4, e5, rfl⟩ := (ha.of_fptr (beq_true.1 h1)).of_ptr (beq_true.1 h1)
    have e0 : nthL a.cs 0 = e := by rw [e1]; rfl
    rw [e0]
    refine Out.same (val := .pointer (some ⟨x, off + (a.q + fd.offset), none⟩)) hr (.fptr _ _ _ _ _ _ (.ptr _ _ _ x off e C l e2 e3 e4 e5)) ?_
    simp only [Instr.fieldAt, Sem.run_bind, run_und hs, Result.andThen_ok, hf, Instr.sureAddr, Sem.run_pure', fieldPlace, run_sizeOf hz, if_neg hz0, Addr.add_mid, Nat.add_assoc]
  · obtain ⟨x, hx, hlt, rfl⟩ := ha.of_optr (beq_true.1 h1)
    refine Out.same (val := .pointer (some ⟨x, a.r * a.s + (a.q + fd.offset), none⟩)) hr (.optr _ _ _ _ _ _ hx hlt) ?_
    simp only [Instr.fieldAt, Sem.run_bind, run_und hs, Result.andThen_ok, hf, Instr.sureAddr, Sem.run_pure', fieldPlace, run_sizeOf hz, if_neg hz0, Addr.add_mid, Nat.add_assoc]
theorem nilY_out {a : AV} {va : Value} (ρ : Operand → Value) (x : Operand) (o : Oper) (ho : o.op = .nilCheck x) (hρ : ρ x = va) (ha : VR φ a va) (hr : HR P w0 H φ w) (hok : AllOk (nilY.run a H c)) :
    Out P w0 (fun v w' => (execOp ρ o).run P w = .ok (.value v) w') H φ (nilY.run a H c) c := by
  refine Out.bi hok fun ht _ => Out.same hr ha ?_
  have key : ∃ p, va = .pointer (some p) := by
    cases h26 : nbeq a.tag 26
    · rw [h26, bi_false] at ht
      obtain ⟨x, _, _, rfl⟩ := ha.of_optr (beq_true.1 ht); exact ⟨_, rfl⟩
    · obtain ⟨_, _, _, _, _, _, _, _, _, _, rfl⟩ := (ha.of_fptr (beq_true.1 h26)).of_ptr (beq_true.1 h26); exact ⟨_, rfl⟩
  obtain ⟨p, rfl⟩ := key
  simp only [execOp, ho, hρ]
  rfl
theorem ixT_val {a : AV} {va : Value} {n : Nat} (ha : VR φ a va) (h : ixT a = true) (hn : a.p < n) (h63 : n ≤ 2 ^ 63) : ∃ k, va = .int k (a.p : Int) := by
  have ht : a.tag = 3 ∨ (4 ≤ a.tag ∧ a.tag ≤ 7) := by
    unfold ixT at h
    cases h3 : nbeq a.tag 3
    · rw [h3, bi_false] at h
      cases h4 : nble 4 a.tag
      · rw [h4] at h; cases h
      · rw [h4, bi_true] at h; exact .inr ⟨ble_true.1 h4, ble_true.1 h⟩
    · exact .inl (beq_true.1 h3)
  obtain ⟨rfl, hlt, _⟩ := ha.of_int (c := a.tag) (by omega) rfl
  suffices hneg : isNeg a.tag a.p = false from ⟨_, by rw [valI_nonneg hneg]⟩
  refine ble_false.2 ?_
  unfold kHalf
  rcases ht with ht | ⟨h4, h7⟩
  · rw [ht]
    have e : bi (nble 4 3) (kMod 3) (Nat.div (kMod 3) 2) = 2 ^ 63 := by decide
    rw [e]; omega
  · rw [ble_true.2 h4, bi_true]; exact hlt
theorem own_of_r {x : AV} {v : Value} (h : VR φ x v) (ht : x.tag = 25) (hr : 0 < x.r) : ∃ y, φ x.q = some y ∧ x.r ≤ φ.tl x.q ∧ φ.tl x.q ≤ φ.k y ∧ v = .slice (some ⟨y, 0, none⟩) x.r (φ.k y) := by
  cases h <;> simp only at ht hr <;> first | exact ⟨_, by assumption, by assumption, by assumption, rfl⟩ | omega
theorem ixSlY_out {t e : TypeId} {sz : Nat} {a b : AV} {va vb : Value} (ht : (tyB P t).run = some (.slice e)) (hz : (szB P e).run = some sz) (ha : VR φ a va) (hb : VR φ b vb) (hr : HR P w0 H φ w) (hok : AllOk ((ixSlY sz).run a b H c)) :
    Out P w0 (fun v w' => (Instr.indexAt t va vb).run P w = .ok v w') H φ ((ixSlY sz).run a b H c) c := by
  refine Out.bi hok fun hi hok => Out.bi2 hok (fun h1 hok => Out.bi hok fun h2 hok => Out.bi hok fun h3 _ => ?_) fun _ hok => Out.bi hok fun h1 hok => Out.bi hok fun h4 hok => Out.bi hok fun h2 hok => Out.bi hok fun h3 _ => ?_
  · have hlt : b.p < a.cs.length := by have := ble_true.1 h3; rwa [lenL_eq] at this
    cases (ha.of_frz (beq_true.1 h1)).of_sl (beq_true.1 h1) with
    | nil g1 g2 => rw [g2] at hlt; simp at hlt
    | empty ad cap g1 g2 g3 => rw [g2] at hlt; simp at hlt
    | sl x off cap C l g1 g2 g3 g4 g5 g6 g7 g8 g9 =>
      obtain ⟨k, rfl⟩ := ixT_val hb hi hlt (Nat.le_of_lt g7)
      have hr' := beq_true.1 h2
      have hn : nthL a.cs b.p = a.cs[b.p] := by rw [nthL_eq, List.getElem?_eq_getElem hlt]; rfl
      have hm : nthL a.cs b.p ∈ a.cs := by rw [hn]; exact List.getElem_mem hlt
      have hcl := (g4 _ hm).2
      have hsub : FZs φ.fz (cellsOf (nthL a.cs b.p)) ((l.drop (b.p * sz)).take sz) := by
        have := (g3.drop (b.p * a.r)).take a.r
        rw [flatL_at g4 (e := nthL a.cs b.p) (by rw [hn]; simp [hlt])] at this
        rwa [hr'] at this
      refine Out.same (val := .pointer (some ⟨x, off + b.p * sz + 0, none⟩)) hr (.fptr _ _ _ _ _ _ (.ptr _ _ _ x (off + b.p * sz) _ C _ g2 hsub (g4 _ hm).1 ?_)) ?_
      · rw [← hsub.length, hcl, hr', ← g8, List.drop_take, List.drop_drop, List.take_take]
        congr 1
        have h5 := g3.length
        rw [flatL_len g4, hr'] at h5
        have : (b.p + 1) * sz ≤ a.cs.length * sz := Nat.mul_le_mul_right _ hlt
        rw [Nat.add_mul] at this
        omega
      · have hlt' : (0:Int) ≤ (b.p : Int) ∧ (b.p : Int) < (a.cs.length : Int) := by omega
        simp only [Instr.indexAt, Sem.run_bind, asIntOf, Sem.run_pure', run_und ht, Result.andThen_ok, hlt', and_self, if_true, run_sizeOf hz, Addr.add_mid, Int.toNat_natCast, Nat.add_zero]
  · have hlt : b.p < a.r := ble_true.1 h3
    obtain ⟨y, hy, g1, g2, rfl⟩ := own_of_r ha (beq_true.1 h1) (by omega)
    obtain ⟨l, rest, ty, fr, ho, k1, k2, k3, k4, k5, k6, k7⟩ := hr.list hy h4
    obtain ⟨k, rfl⟩ := ixT_val hb hi hlt (by omega)
    refine Out.same (val := .pointer (some ⟨y, b.p * sz + 0, none⟩)) hr (.optr _ _ _ _ _ _ hy (by omega)) ?_
    have hlt' : (0:Int) ≤ (b.p : Int) ∧ (b.p : Int) < (a.r : Int) := by omega
    simp only [Instr.indexAt, Sem.run_bind, asIntOf, Sem.run_pure', run_und ht, Result.andThen_ok, hlt', and_self, if_true, run_sizeOf hz, Addr.add_mid, Int.toNat_natCast, Nat.zero_add, Nat.add_zero]
theorem lenY_out {t e ty : TypeId} {tys : Array TypeId} {a : AV} {va : Value} (ht0 : tys[0]? = some t) (ht : (tyB P t).run = some (.slice e)) (ha : VR φ a va) (hr : HR P w0 H φ w) (hok : AllOk (lenY.run a H c)) :
    Out P w0 (fun v w' => (Builtin.len_ tys ty #[va]).run P w = .ok v w') H φ (lenY.run a H c) c := by
  have h0 : (#[va] : Array Value)[0]? = some va := rfl
  have fin : ∀ n : Nat, n < 2 ^ 63 → VR φ (mk1 3 n) (.int .i64 n) := fun n hn => by
    have hneg : isNeg 3 n = false := ble_false.2 (by
      have e : kHalf 3 = 2 ^ 63 := by decide
      rw [e]; exact hn)
    have := VR.int (φ := φ) 3 n 0 0 [] (by omega) (by have e : kMod 3 = 2 ^ 64 := by decide
                                                      rw [e]; omega)
    rwa [valI_nonneg hneg] at this
  refine Out.bi2 hok (fun h1 hok => ?_) fun _ hok => Out.bi hok fun h1 hok => Out.bi hok fun h2 hok => ?_
  · rw [lenL_eq]
    cases (ha.of_frz (beq_true.1 h1)).of_sl (beq_true.1 h1) with
    | nil g1 g2 =>
      rw [g2]
      exact Out.same hr (fin 0 (by omega)) (by simp only [Builtin.len_, ht0, h0, Sem.run_bind, run_und ht, Result.andThen_ok]; rfl)
    | empty ad cap g1 g2 g3 =>
      rw [g2]
      exact Out.same hr (fin 0 (by omega)) (by simp only [Builtin.len_, ht0, h0, Sem.run_bind, run_und ht, Result.andThen_ok]; rfl)
    | sl x off cap C l g1 g2 g3 g4 g5 g6 g7 g8 g9 =>
      exact Out.same hr (fin _ g7) (by simp only [Builtin.len_, ht0, h0, Sem.run_bind, run_und ht, Result.andThen_ok]; rfl)
  · by_cases hr0 : a.r = 0
    · have : ∃ ad cap, va = .slice ad 0 cap := by
        cases ha <;> simp only at h1 hr0 <;> first | (subst hr0; exact ⟨_, _, rfl⟩) | exact ⟨_, _, rfl⟩ | (exact absurd (beq_true.1 h1) (by omega))
      obtain ⟨ad, cap, rfl⟩ := this
      rw [hr0]
      exact Out.same hr (fin 0 (by omega)) (by simp only [Builtin.len_, ht0, h0, Sem.run_bind, run_und ht, Result.andThen_ok]; rfl)
    · obtain ⟨y, hy, g1, g2, rfl⟩ := own_of_r ha (beq_true.1 h1) (by omega)
      obtain ⟨l, rest, ty, fr, ho, k1, k2, k3, k4, k5, k6, k7⟩ := hr.list hy h2
      exact Out.same hr (fin _ (by omega)) (by simp only [Builtin.len_, ht0, h0, Sem.run_bind, run_und ht, Result.andThen_ok]; rfl)
theorem nilEqY_out {want : Bool} {e : TypeId} {t : TypeId} {x y : Operand} {a b : AV} {va vb : Value} (ht : (tyB P t).run = some (.slice e)) (ha : VR φ a va) (hb : VR φ b vb) (hr : HR P w0 H φ w) (hok : AllOk ((nilEqY want).run a b H c)) :
    Out P w0 (BinY P (bi want .eql .neq) t x y va vb w) H φ ((nilEqY want).run a b H c) c := by
  refine Out.bi hok fun h1 hok => Out.bi hok fun h2 _ => ?_
  have hvb := hb.isNil h1
  simp only at hvb
  subst hvb
  have key : ∃ ad l k, va = .slice ad l k ∧ ad.isNone = nbeq a.p 0 ∧ (ad = none → l = 0 ∧ k = 0) := by
    cases h24 : nbeq a.tag 24
    · rw [h24, bi_false] at h2
      cases ha <;> simp only at h2 <;> first | exact ⟨_, _, _, rfl, rfl, fun _ => ⟨rfl, rfl⟩⟩ | exact ⟨_, _, _, rfl, rfl, fun h => nomatch h⟩ | (exact absurd (beq_true.1 h2) (by omega))
    · cases (ha.of_frz (beq_true.1 h24)).of_sl (beq_true.1 h24) with
      | nil g1 g2 => exact ⟨_, _, _, rfl, by rw [g1]; rfl, fun _ => ⟨rfl, rfl⟩⟩
      | empty ad cap g1 g2 g3 => exact ⟨_, _, _, rfl, by rw [g1]; rfl, fun h => by cases h⟩
      | sl x off cap C l g1 g2 g3 g4 g5 g6 g7 g8 g9 => exact ⟨_, _, _, rfl, by rw [g1]; rfl, fun h => by cases h⟩
  obtain ⟨ad, l, k, rfl, e1, e2⟩ := key
  rw [nb_eq, ← e1]
  refine Out.same hr (vr_bool _) (binY_of trivial (eql_of want ((equalIn_sl ht ad l k).2) ?_))
  rintro op (rfl | rfl) <;> rfl
end Go.Eng
