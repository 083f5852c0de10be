
/- A part of the proof that the evaluator in GnC, and the driver in GnZ, answer as the model does; no conditions. -/
import Derived.Test.YtfmoohdaimlggaaGreatDoorGnLw
import Derived.LaidLaws
import Derived.ChangeBears
import Derived.ChangeBears2
namespace Go.Eng
open Go.RowKit
variable {P : Program}
/-! ### what a row says of the package's variables -/
theorem laid_at {P : Program} {w : World} {n : String} {d : DataW Unit} : ∀ {l : List (String × DataW Unit)} {ps : List MemPlace}, DataW.LaidVars P w l ps → (n, d) ∈ l →
    ∃ g t cs fuel p, P.globalNamed n = some g ∧ (P.globals[g]?).map (·.type) = some t ∧ w.var? P n = some cs ∧ DataW.trod (fun _ => ()) P w 0 (fun _ => true) false fuel t cs.toList = some (d, p) ∧ ∀ x ∈ MemPlace.row ⟨g, 0, none⟩ cs.size, x ∈ ps := by
  intro l
  induction l with
  | nil => intro ps _ h; cases h
  | cons a l ih =>
    intro ps h hm
    obtain ⟨n', d'⟩ := a
    obtain ⟨g, t, cs, fuel, p, q, h1, h2, h3, h4, h5, rfl⟩ := h
    rcases List.mem_cons.1 hm with e | hm
    · cases e; exact ⟨g, t, cs, fuel, p, h1, h2, h3, h4, fun x hx => by simp [hx]⟩
    · obtain ⟨g', t', cs', fuel', p', k1, k2, k3, k4, k5⟩ := ih h5 hm
      exact ⟨g', t', cs', fuel', p', k1, k2, k3, k4, fun x hx => by have := k5 x hx; simp [this]⟩
theorem var_heap {P : Program} {w : World} {n : String} {g : Nat} {cs : Array Value} (hg : P.globalNamed n = some g) (h : w.var? P n = some cs) : ∃ t fr, w.heap[g]? = some (.cells cs t fr) := by
  unfold World.var? at h
  rw [hg] at h
  simp only [Option.bind_some] at h
  split at h
  · rename_i cs' t fr e; cases h; exact ⟨t, fr, e⟩
  · cases h
theorem dav_agg {n : Nat} {d : DataW Unit} {ds : List (DataW Unit)} {as : List AV} (h : dav (n + 1) (.agg (d :: ds)) = some as) : ∃ a b, dav n d = some a ∧ dav (n + 1) (.agg ds) = some b ∧ as = a ++ b := by
  have h' : (match dav n d, dav (n + 1) (.agg ds) with | some a, some b => some (a ++ b) | _, _ => none) = some as := h
  split at h'
  · rename_i a b e1 e2; cases h'; exact ⟨a, b, e1, e2, rfl⟩
  · cases h'
/-- parts of a row of cells, one behind another -/
theorem parts_ok {φ : Ph} {n : Nat} {cs : List Value} {α : Type} {f : α → Option (DataW Unit × List MemPlace)} {off siz : α → Nat} : ∀ {l : List α} {xs : List (DataW Unit × List MemPlace)} {o : Nat} {as : List AV}, l.mapM f = some xs →
    (∀ x ∈ l, ∀ d p as, f x = some (d, p) → dav n d = some as → VRs φ as ((cs.drop (off x)).take (siz x))) → (∀ (j : Nat) x, l[j]? = some x → off x = o + ((l.take j).map siz).sum) → cs.length = o + (l.map siz).sum →
    dav (n + 1) (.agg (xs.map (·.1))) = some as → VRs φ as (cs.drop o) := by
  intro l
  induction l with
  | nil =>
    intro xs o as hm _ _ hl hd
    simp at hm; subst hm
    have hd' : some ([] : List AV) = some as := hd
    cases hd'
    rw [List.drop_of_length_le (by simp at hl; omega)]; exact .nil
  | cons x l ih =>
    intro xs o as hm hf ho hl hd
    simp only [List.mapM_cons, Option.bind_eq_bind, Option.pure_def] at hm
    obtain ⟨y, hy, hm⟩ := Option.bind_eq_some_iff.1 hm
    obtain ⟨ys, hys, hm⟩ := Option.bind_eq_some_iff.1 hm
    cases hm
    obtain ⟨a, b, e1, e2, rfl⟩ := dav_agg (by simpa using hd)
    have h0 : off x = o := by simpa using ho 0 x rfl
    have h1 := hf x (by simp) y.1 y.2 a hy e1
    have h2 := ih (o := o + siz x) hys (fun x hx => hf x (by simp [hx])) (fun j z hz => by
      have := ho (j + 1) z (by simpa using hz)
      rw [List.take_succ_cons, List.map_cons, List.sum_cons] at this
      omega) (by rw [List.map_cons, List.sum_cons] at hl; omega) e2
    have := h1.append h2
    rw [h0, ← List.drop_drop, List.take_append_drop] at this
    exact this
def goodD : DataW Unit → Bool
  | .lit (.int _ _) => true
  | .lit (.string _) => true
  | .lit (.bool _) => true
  | .agg _ => true
  | _ => false
theorem dav_good {n : Nat} {d : DataW Unit} {as : List AV} (h : dav n d = some as) : goodD d = true := by
  cases n with
  | zero => cases h
  | succ n =>
    have no : ∀ {x : List AV}, (none : Option (List AV)) = some x → False := fun h => by cases h
    cases d with
    | lit l => cases l <;> first | rfl | exact (no h).elim
    | agg ds => rfl
    | _ => exact (no h).elim
theorem dav_ok {φ : Ph} {w : World} (hl : laidOutB P = true) : ∀ (fuel n : Nat) (t : TypeId) (cs : List Value) (d : DataW Unit) (p : List MemPlace) (as : List AV), t < P.types.size → DataW.trod (fun _ => ()) P w 0 (fun _ => true) false fuel t cs = some (d, p) → dav n d = some as → VRs φ as cs := by
  intro fuel
  induction fuel with
  | zero => intro n t cs d p as _ h; cases h
  | succ fuel ih =>
    intro n t cs d p as ht h hd
    have hg := dav_good hd
    cases n with
    | zero => cases hd
    | succ n =>
    simp only [DataW.trod] at h
    split at h
    case h_1 b hu =>
      cases h
      have hd' : some [bV b] = some as := hd
      cases hd'
      exact .cons (FZ.vr (FZ.bool b 0 0 [])) .nil
    case h_2 k k' m hu =>
      split at h
      · rename_i hc
        obtain ⟨rfl, hw⟩ := hc
        cases h
        have hd' : some [mk1 (kCode k') ((m % (kMod (kCode k') : Int)).toNat)] = some as := hd
        cases hd'
        have hc8 : kCode k' < 8 ∧ kOf (kCode k') = k' := by cases k' <;> exact ⟨by decide, rfl⟩
        simp only [Lit.wf, Bool.and_eq_true, decide_eq_true_eq] at hw
        have e1 := wrap_self hc8.1 m (by rw [hc8.2]; exact hw.1) (by rw [hc8.2]; exact hw.2)
        rw [wrap_mod hc8.1] at e1
        have hpos : (0 : Int) < (kMod (kCode k') : Int) := by
          have : 0 < kMod (kCode k') := by cases k' <;> decide +kernel
          exact_mod_cast this
        have hlt := Int.emod_lt_of_pos m hpos
        have hnn := Int.emod_nonneg m (by omega : (kMod (kCode k') : Int) ≠ 0)
        have := FZ.int (z := φ.fz) (kCode k') (m % (kMod (kCode k') : Int)).toNat 0 0 [] hc8.1 (by omega)
        rw [e1, hc8.2] at this
        exact .cons this.vr .nil
      · cases h
    case h_4 s hu =>
      split at h
      · cases h
        have hd' : some [(⟨9, bytesN s.data.toList, s.data.toList.length, 0, 0, []⟩ : AV)] = some as := hd
        cases hd'
        have := FZ.str (z := φ.fz) s.data.toList 0 0 []
        have e : (⟨s.data.toList.toArray⟩ : ByteArray) = s := by cases s; simp
        rw [e] at this
        exact .cons this.vr .nil
      · cases h
    case h_9 cs0 x0 cs' fs hu =>
      split at h
      · rename_i hc
        obtain ⟨xs, h2, h3⟩ := Option.map_eq_some_iff.1 h
        cases h3
        obtain ⟨k1, k2, k3⟩ := kid_struct hl ht hu
        have := parts_ok (φ := φ) (n := n) (cs := cs0) (o := 0) (off := fun f : Field => f.offset) (siz := fun f : Field => P.cellsOf f.type) h2 (fun f hf d p as h hd => ih n f.type _ d p as (k1 f hf) h hd) (fun j f hj => by rw [k3 j f hj]; simp) (by rw [hc, k2]; simp) hd
        simpa using this
      · cases h
    case h_10 cs0 x0 cs' k e hu =>
      split at h
      · rename_i hc
        obtain ⟨xs, h2, h3⟩ := Option.map_eq_some_iff.1 h
        cases h3
        obtain ⟨k1, k2⟩ := kid_array hl ht hu
        have hsum : ∀ (l : List Nat), (l.map fun _ => P.cellsOf e).sum = l.length * P.cellsOf e := by
          intro l
          induction l with
          | nil => simp
          | cons a l ih => rw [List.map_cons, List.sum_cons, ih, List.length_cons, Nat.succ_mul]; omega
        have := parts_ok (φ := φ) (n := n) (cs := cs0) (o := 0) (off := fun i : Nat => i * P.cellsOf e) (siz := fun _ => P.cellsOf e) h2 (fun i hi d p as h hd => ih n e _ d p as k1 h hd) (fun j i hj => by
          have hj' := List.getElem?_eq_some_iff.1 hj
          obtain ⟨hlt, he⟩ := hj'
          rw [hsum, List.length_take]
          simp at hlt he
          subst he
          rw [List.length_range, Nat.min_eq_left (by omega)]
          omega) (by rw [hc, k2, hsum]; simp) hd
        simpa using this
      · cases h
    case h_8 =>
      split at h
      · obtain ⟨_, _, h⟩ := Option.bind_eq_some_iff.1 h
        obtain ⟨_, _, e⟩ := Option.map_eq_some_iff.1 h
        cases e; cases hg
      · cases h
    case h_12 =>
      split at h
      · cases h; cases hg
      · obtain ⟨_, _, e⟩ := Option.map_eq_some_iff.1 h
        cases e; cases hg
      · cases h
    case h_14 =>
      split at h
      · split at h
        · obtain ⟨_, _, h⟩ := Option.bind_eq_some_iff.1 h
          split at h
          · cases h; cases hg
          · cases h
        · cases h
      · cases h
    all_goals first
      | (cases h; done)
      | (cases h; cases hg; done)
      | (split at h <;> first | (cases h; cases hg; done) | (cases h; done))
      | (obtain ⟨_, _, e⟩ := Option.map_eq_some_iff.1 h; cases e; cases hg; done)
theorem laidL_of (hl : laidOutB P = true) {laid : List (String × DataW Unit)} {W : World} (h : laidMet P laid W) {L : List (Nat × List AV)} (hL : ∀ g ∈ L, ∃ n d k, (n, d) ∈ laid ∧ P.globalNamed n = some g.1 ∧ dav k d = some g.2 ∧ g.2 ≠ []) : LaidL W L := by
  obtain ⟨ps, hv, _, hcell⟩ := h
  intro g hg
  obtain ⟨n, d, k, h1, h2, h3, h4⟩ := hL g hg
  obtain ⟨g', t, cs, fuel, p, a1, a2, a3, a4, a5⟩ := laid_at hv h1
  rw [h2] at a1; cases a1
  obtain ⟨t0, f0, h0⟩ := var_heap h2 a3
  have hvr := fun φ => dav_ok (φ := φ) hl fuel k t cs.toList d p g.2 (global_row hl a2) a4 h3
  have hlen : 0 < cs.size := by
    have h5 := hvr ⟨fun _ => none, fun _ => 0, fun _ _ => False, fun _ => none, fun _ => 0⟩
    cases hcs : cs.toList with
    | nil => rw [hcs] at h5; cases hg2 : g.2 with
      | nil => exact absurd hg2 h4
      | cons a l => rw [hg2] at h5; cases h5
    | cons a l => have := congrArg List.length hcs; simp at this; omega
  obtain ⟨⟨c', t', e'⟩, _⟩ := hcell g.1 0 (a5 _ (by
    unfold MemPlace.row
    rw [List.mem_map]
    exact ⟨0, by simp [hlen], rfl⟩))
  rw [h0] at e'
  cases e'
  exact ⟨cs.toList, [], t0, by simpa using h0, hvr⟩
theorem laid_size {laid : List (String × DataW Unit)} {W : World} (h : laidMet P laid W) {n : String} {d : DataW Unit} (hm : (n, d) ∈ laid) {g : Nat} (hg : P.globalNamed n = some g) (hs : P.globals.size = g + 1) : P.globals.size ≤ W.heap.size := by
  obtain ⟨ps, hv, _, _⟩ := h
  obtain ⟨g', t, cs, fuel, p, a1, a2, a3, a4, a5⟩ := laid_at hv hm
  rw [hg] at a1; cases a1
  obtain ⟨t0, f0, h0⟩ := var_heap hg a3
  have := (Array.getElem?_eq_some_iff.1 h0).1
  omega
end Go.Eng
