
/- A part of the proof that the evaluator in GnC, and the driver in GnZ, answer as the model does; no conditions. -/
import Derived.Test.YtfmoohdaimlggaaGreatDoorGnZS2
import Derived.Test.YtfmoohdaimlggaaGreatDoorGnYb
namespace Go.Eng
open Go.RowKit
variable {P : Program} {w0 : World} {H Hb : Hp} {φ φ0 : Ph} {w : World} {N : Nat} {T : Fr} {a : Act} {lab : Lab} {r : Rec}

/-- frozen values: nothing but the frozen cells is asked -/
def FV (z : Nat → Option (List Value)) (a : AV) (v : Value) : Prop := ∀ φ : Ph, φ.fz = z → VR φ a v
def FVs (z : Nat → Option (List Value)) (a : List AV) (v : List Value) : Prop := ∀ φ : Ph, φ.fz = z → VRs φ a v
theorem le_fz {z : Nat → Option (List Value)} {φ : Ph} (h : ∀ x C, z x = some C → φ.fz x = some C) : Le ⟨φ.f, φ.k, φ.op, z, φ.tl⟩ φ := ⟨fun _ _ h => ⟨h, rfl⟩, rfl, h, fun _ _ _ => rfl⟩
theorem FV.mono {z z' : Nat → Option (List Value)} {a : AV} {v : Value} (h : FV z a v) (hz : ∀ x C, z x = some C → z' x = some C) : FV z' a v := by
  intro φ e
  subst e
  exact (h ⟨φ.f, φ.k, φ.op, z, φ.tl⟩ rfl).mono (le_fz hz)
theorem FVs.mono {z z' : Nat → Option (List Value)} {a : List AV} {v : List Value} (h : FVs z a v) (hz : ∀ x C, z x = some C → z' x = some C) : FVs z' a v := by
  intro φ e
  subst e
  exact (h ⟨φ.f, φ.k, φ.op, z, φ.tl⟩ rfl).mono (le_fz hz)
theorem frzV_ok {t : TypeId} {v a' : AV} {H' : Hp} {val : Value} (h : frzV P t v H = some (a', H')) (hr : HR P w0 H φ w) (hv : VR φ v val) : ∃ φ', Frz P w0 w H φ H' φ' ∧ FV φ'.fz a' val := by
  have h0 : bi (nbeq v.tag 13) (bi (cl0 v) (some (v, H)) none) (om (cellTs P 20 t) none (fun ts => om (frzL P (frzE P 20) ts (cellsOf v) H) none fun x => bi (bi (isAggT P t) (nbeq v.tag 15) (bi (nbeq v.tag 15) false (nbeq (lenL x.1) 1))) (some (elemV (isAggT P t) x.1, x.2)) none)) = some (a', H') := h
  cases h13 : nbeq v.tag 13
  case true =>
    rw [h13, bi_true] at h0
    obtain ⟨hc, h0⟩ := bi_none' h0
    cases h0
    exact ⟨φ, Frz.refl hr, fun ψ e => cl0_vr hc hv e⟩
  rw [h13, bi_false] at h0
  have h' := h0
  obtain ⟨ts, _, h'⟩ := om_none' h'
  obtain ⟨⟨cs, H1⟩, h2, h'⟩ := om_none' h'
  obtain ⟨h3, h'⟩ := bi_none' h'
  cases h'
  cases h15 : nbeq v.tag 15
  · rw [h15] at h3
    cases hag : isAggT P t
    · rw [hag] at h3
      have h3 : nbeq (lenL cs) 1 = true := h3
      have hl := beq_true.1 h3
      rw [lenL_eq] at hl
      obtain ⟨c, rfl⟩ := List.length_eq_one_iff.1 hl
      have e1 : cellsOf v = [v] := by unfold cellsOf; rw [h15]; rfl
      rw [e1] at h2
      obtain ⟨φ', f1, f2, _, _⟩ := frzL_ok (frzE_ok 20) _ _ _ _ _ h2 φ w [val] hr (.cons hv .nil)
      refine ⟨φ', f1, fun ψ e => ?_⟩
      cases f2 with | cons g1 _ => exact FZ.vr (φ := ψ) (by rw [e]; exact g1)
    · rw [hag] at h3; cases h3
  · rw [h15] at h3
    cases hag : isAggT P t
    · rw [hag] at h3; cases h3
    · obtain ⟨l, rfl, hl, _⟩ := hv.of_agg (beq_true.1 h15)
      have e1 : cellsOf v = v.cs := by unfold cellsOf; rw [h15]; rfl
      rw [e1] at h2
      obtain ⟨φ', f1, f2, _, f4⟩ := frzL_ok (frzE_ok 20) _ _ _ _ _ h2 φ w l hr hl
      refine ⟨φ', f1, fun ψ e => ?_⟩
      exact .agg 0 0 0 0 cs l (FZs.vrs (φ := ψ) (by rw [e]; exact f2)) f4
theorem frzVs_ok (ts : List TypeId) : ∀ {vs as : List AV} {H H' : Hp} {φ : Ph} {vals : List Value}, frzVs P ts vs H = some (as, H') → HR P w0 H φ w → VRs φ vs vals → ∃ φ', Frz P w0 w H φ H' φ' ∧ FVs φ'.fz as vals := by
  induction ts with
  | nil =>
    intro vs as H H' φ vals h hr hv
    cases vs with
    | nil =>
      have h' : some (([] : List AV), H) = some (as, H') := h
      cases h'; cases hv
      exact ⟨φ, Frz.refl hr, fun _ _ => .nil⟩
    | cons v vs => cases h
  | cons t ts ih =>
    intro vs as H H' φ vals h hr hv
    cases vs with
    | nil => cases h
    | cons v vs =>
      have h' : om (frzV P t v H) none (fun x => om (frzVs P ts vs x.2) none fun y => some (x.1 :: y.1, y.2)) = some (as, H') := h
      obtain ⟨⟨a1, H1⟩, h1, h'⟩ := om_none' h'
      obtain ⟨⟨as2, H2⟩, h2, h'⟩ := om_none' h'
      cases h'
      cases hv with
      | cons hv1 hv2 =>
        obtain ⟨φ1, f1, g1⟩ := frzV_ok h1 hr hv1
        obtain ⟨φ2, f2, g2⟩ := ih h2 f1.hr (hv2.mono f1.ex.keep)
        exact ⟨φ2, f1.trans f2, fun ψ e => .cons ((g1.mono f2.ex.keep.fz) ψ e) (g2 ψ e)⟩
/-- before a label: what is frozen there -/
theorem frzS_ok {H0 : Hp} : ∀ (live : List (Nat × Nat)) (T : Fr) (H : Hp) (φ : Ph) (x : Fr × Hp), frzS P live T H = some x → St P w0 N H0 φ0 T H φ a w → ∃ φ', St P w0 N H0 φ0 x.1 x.2 φ' a w := by
  intro live
  induction live with
  | nil =>
    intro T H φ x h hs
    have h' : some (T, H) = some x := h
    cases h'
    exact ⟨φ, hs⟩
  | cons tm live ih =>
    intro T H φ x h hs
    obtain ⟨y, h1, h2⟩ := om_none' (show om (frzS1 P tm T H) none (fun x => frzS P live x.1 x.2) = some x from h)
    have key : ∃ φ', St P w0 N H0 φ0 y.1 y.2 φ' a w := by
      unfold frzS1 at h1
      cases hm : nble 1000 tm.2
      · rw [hm] at h1
        have h1' : some (T, H) = some y := h1
        cases h1'
        exact ⟨φ, hs⟩
      · rw [hm, bi_true] at h1
        obtain ⟨ht, h1⟩ := bi_none' h1
        obtain ⟨v, hv, h1⟩ := om_none' h1
        cases h1
        obtain ⟨φ1, f1, g1⟩ := frzV_ok hv hs.hr (hs.tr.val tm.1)
        have htr := hs.tr.mono f1.ex.keep
        refine ⟨φ1, ⟨htr.size, ?_, by rw [marksT_setB]; exact htr.defers, htr.gl⟩, f1.hr, hs.ex.trans f1.ex⟩
        intro t'
        rw [getB_setB]
        by_cases e : tm.1 = t'
        · subst e; rw [if_pos ⟨rfl, ble_true.1 ht⟩]; exact g1 φ1 rfl
        · rw [if_neg (fun h => e h.1)]; exact htr.val t'
    obtain ⟨φ', hs'⟩ := key
    exact ih _ _ φ' x h2 hs'
end Go.Eng
