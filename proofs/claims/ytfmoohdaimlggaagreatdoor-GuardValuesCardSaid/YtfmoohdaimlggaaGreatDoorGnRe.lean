
/- A part of the proof that the evaluator in GnC, and the driver in GnZ, answer as the model does; no conditions. -/
import Derived.Test.YtfmoohdaimlggaaGreatDoorGnRd
namespace Go.Eng
open Go.RowKit
variable {P : Program}
/-! reading values of types that hold values of their own type: as in GnRd, with so many steps at the most -/
def RdN (P : Program) (N : Nat) (t : TypeId) (R : List AV → Prop) : Prop := ∀ (X : Type) (enc : TypeId × Value → X) (W : World) (spare : Nat → Bool) (held : Bool) (fuel : Nat) (cs : List Value) (x : DataW X × List MemPlace), fuel ≤ N → DataW.trod enc P W 0 spare held fuel t cs = some x → (x.1.weights P t).all (· ≤ reachBytes) = true → ∃ as, R as ∧ FZs (allZ W) as cs
theorem Rdb.n {t : TypeId} {R : List AV → Prop} (h : Rdb P t R) (N : Nat) : RdN P N t R := fun X enc W spare held fuel cs x _ hx hw => h X enc W spare held fuel cs x hx hw
theorem Rdb.of {t : TypeId} {R : List AV → Prop} (h : ∀ N, RdN P N t R) : Rdb P t R := fun X enc W spare held fuel cs x hx hw => h fuel X enc W spare held fuel cs x (Nat.le_refl _) hx hw
theorem RdN.weaken {N : Nat} {t : TypeId} {R R' : List AV → Prop} (h : RdN P N t R) (hR : ∀ as, R as → R' as) : RdN P N t R' := by
  intro X enc W spare held fuel cs x hn hx hw
  obtain ⟨as, h1, h2⟩ := h X enc W spare held fuel cs x hn hx hw
  exact ⟨as, hR as h1, h2⟩
theorem RdN.zero {t : TypeId} {R : List AV → Prop} : RdN P 0 t R := by
  intro X enc W spare held fuel cs x hn hx _
  have : fuel = 0 := by omega
  subst this
  cases hx
inductive FitN (P : Program) (N : Nat) : List Field → Nat → List (List AV → Prop) → Nat → Prop
  | nil (o : Nat) : FitN P N [] o [] o
  | cons {f : Field} {l : List Field} {o m : Nat} {R : List AV → Prop} {Rs : List (List AV → Prop)} (c : Nat) : f.offset = o → P.cellsOf f.type = c → RdN P N f.type R → FitN P N l (o + c) Rs m → FitN P N (f :: l) o (R :: Rs) m
theorem FitN.go {X : Type} {enc : TypeId × Value → X} {W : World} {spare : Nat → Bool} {held : Bool} {fuel : Nat} {l : List Field} {o m : Nat} {Rs : List (List AV → Prop)} {N : Nat} (hfn : fuel ≤ N) (h : FitN P N l o Rs m) : ∀ {cs : List Value}, cs.length = m → (∀ (i : Nat) (f : Field), l[i]? = some f → ∃ x, DataW.trod enc P W 0 spare held fuel f.type ((cs.drop f.offset).take (P.cellsOf f.type)) = some x ∧ (x.1.weights P f.type).all (· ≤ reachBytes) = true) → ∃ as, Cat Rs as ∧ FZs (allZ W) as (cs.drop o) := by
  induction h with
  | nil o => intro cs hl _; exact ⟨[], .nil, by rw [List.drop_of_length_le (by omega)]; exact .nil⟩
  | cons c ho hc hR _ ih =>
    intro cs hl hall
    obtain ⟨x, hx, hxw⟩ := hall 0 _ rfl
    obtain ⟨a, ha, hz⟩ := hR X enc W spare held fuel _ x hfn hx hxw
    obtain ⟨as, has, hzs⟩ := ih hl fun i f hf => hall (i + 1) f (by simpa using hf)
    refine ⟨a ++ as, .cons ha has, ?_⟩
    have := hz.append hzs
    rw [ho, hc] at this
    rw [← List.drop_drop] at this
    rw [List.take_append_drop] at this
    exact this
theorem rdn_struct {N : Nat} {t : TypeId} {fs : Array Field} {Rs : List (List AV → Prop)} (ht : P.underlying t = some (.struct fs)) (n : Nat) (hn : P.cellsOf t = n) (hf : FitN P N fs.toList 0 Rs n) : RdN P (N + 1) t (Cat Rs) := by
  intro X enc W spare held fuel cs x hfn h hwt
  cases fuel with
  | zero => cases h
  | succ m =>
    simp only [DataW.trod, ht] at h
    split at h
    · rename_i hc
      obtain ⟨xs, h2, h3⟩ := Option.map_eq_some_iff.1 h
      subst h3
      simp only [DataW.weights, ht] at hwt
      have := hf.go (hfn := (by omega : m ≤ N)) (enc := enc) (W := W) (spare := spare) (held := held) (fuel := m) (cs := cs) (by omega) fun i f hi => by
        obtain ⟨b, hb, hb2⟩ := mapM_at h2 i f hi
        exact ⟨b, hb, each_at hwt i f.type b.1 (by rw [List.getElem?_map, hi]; rfl) (by rw [List.getElem?_map, hb2]; rfl)⟩
      simpa using this
    · cases h
theorem rdn_slice {N : Nat} {t e : TypeId} {R : List AV → Prop} (ht : P.underlying t = some (.slice e)) (hby : 0 < P.bytesOf e) (r : Nat) (hr : P.cellsOf e = r) (h0 : 0 < r) (agg : Bool) (ha : agg = false → r = 1) (hR : RdN P N e R) : RdN P (N + 1) t (IsList R agg r) := by
  intro X enc W spare held fuel cs x hfn h hwt
  have hv : ∃ v, cs = [v] := by
    cases fuel with
    | zero => cases h
    | succ n =>
      simp only [DataW.trod, ht] at h
      split at h <;> rename_i h1 h2 <;> first | (cases h; done) | (simp at h1; done) | (simp at h2; done) | exact ⟨_, rfl⟩
  obtain ⟨v, rfl⟩ := hv
  rcases trod_slice ht h with rfl | ⟨a, len, cap, n, elems, rfl, rfl, hcap, hel⟩
  · exact ⟨[⟨24, 0, 0, r, 0, []⟩], ⟨0, [], rfl, by omega, fun _ => rfl, Nat.zero_le _, fun x hx => by cases hx⟩, .cons (.nils 0 r 0) .nil⟩
  have hmax : maxLen = 9223372036854775807 := by decide +kernel
  rw [hr] at hel
  have hd : ∃ spare', x.1 = .slice (elems.map (·.1)) spare' := by
    simp only [DataW.trod, ht] at h
    split at h
    · obtain ⟨elems', he', h⟩ := Option.bind_eq_some_iff.1 h
      rw [hr, hel] at he'
      cases he'
      obtain ⟨rest, _, h⟩ := Option.map_eq_some_iff.1 h
      cases h
      exact ⟨_, rfl⟩
    · cases h
  obtain ⟨spare', hd⟩ := hd
  rw [hd] at hwt
  simp only [DataW.weights, ht, List.all_cons, Bool.and_eq_true, List.all_append, decide_eq_true_eq] at hwt
  have hlenE : elems.length = len := by
    have := mapM_some_length hel
    simpa using this
  have hreach : len ≤ reachBytes := by
    have h1 := hwt.1
    rw [List.length_map, hlenE] at h1
    have h2 : len + spare'.length ≤ (len + spare'.length) * P.bytesOf e := Nat.le_mul_of_pos_right _ hby
    omega
  rcases Nat.eq_zero_or_pos len with rfl | hlen
  · exact ⟨[⟨24, 1, 0, r, 0, []⟩], ⟨1, [], rfl, by omega, (fun h => by cases h), (Nat.zero_le _), (fun x hx => by cases hx)⟩, .cons (.empty 0 r a cap) .nil⟩
  have key : ∀ i, i < len → ∃ as vs, R as ∧ FZs (allZ W) as vs ∧ vs.length = r ∧ ∀ j, j < r → W.cell? ((a.add (i * r)).add j) = vs[j]? := by
    intro i hi
    obtain ⟨y, hy, hy2⟩ := mapM_at hel i i (by simp [hi])
    obtain ⟨vs, hvs, hy⟩ := Option.bind_eq_some_iff.1 hy
    obtain ⟨as, h1, h2⟩ := hR X enc W spare held n vs y (by omega) hy (all_at hwt.2.1 i y.1 (by rw [List.getElem?_map, hy2]; rfl))
    obtain ⟨_, g1, g2⟩ := World.cells?_some hvs
    exact ⟨as, vs, h1, h2, g1, g2⟩
  obtain ⟨_, vs0, _, _, l0, c0⟩ := key 0 hlen
  have c00 := c0 0 h0
  have e00 : (a.add (0 * r)).add 0 = a := by simp [Addr.add]
  rw [e00, List.getElem?_eq_getElem (by omega)] at c00
  obtain ⟨C, tt, fr, hC, _, hs⟩ := cell_blk c00
  have hz := allZ_some hC
  have hat : ∀ i, i < len → ∃ as vs, R as ∧ FZs (allZ W) as vs ∧ vs.length = r ∧ ∀ j, j < r → C[a.off + i * r + j]? = vs[j]? := by
    intro i hi
    obtain ⟨as, vs, h1, h2, h3, h4⟩ := key i hi
    refine ⟨as, vs, h1, h2, h3, fun j hj => ?_⟩
    have h5 := h4 j hj
    have hb : ((a.add (i * r)).add j).block = a.block ∧ ((a.add (i * r)).add j).off = a.off + i * r + j := by
      unfold Addr.add
      split <;> split <;> simp_all
    rw [List.getElem?_eq_getElem (by omega)] at h5 ⊢
    obtain ⟨C', _, _, hC', hc', _⟩ := cell_blk h5
    rw [hb.1, hC] at hC'
    cases hC'
    rw [hb.2] at hc'
    exact hc'
  have hind : ∀ m, m ≤ len → ∃ es : List AV, es.length = m ∧ (∀ x ∈ es, ∃ bs, R bs ∧ x = elemV agg bs) ∧ (∀ c ∈ es, cellsOk c = true ∧ (cellsOf c).length = r) ∧ FZs (allZ W) (flatL es) ((C.toList.drop a.off).take (m * r)) ∧ ((C.toList.drop a.off).take (m * r)).length = m * r := by
    intro m
    induction m with
    | zero => intro _; exact ⟨[], rfl, (fun x hx => by cases hx), (fun x hx => by cases hx), by simp; exact .nil, by simp⟩
    | succ m ih =>
      intro hm
      obtain ⟨es, h1, h2, h3, h4, h5⟩ := ih (by omega)
      obtain ⟨as, vs, g1, g2, g3, g4⟩ := hat m (by omega)
      obtain ⟨k1, k2⟩ := elem_ok (agg := agg) (r := r) g2 g3 ha
      have hvs : ((C.toList.drop a.off).drop (m * r)).take r = vs := by
        apply List.ext_getElem?
        intro j
        by_cases hj : j < r
        · rw [List.getElem?_take_of_lt hj, List.getElem?_drop, List.getElem?_drop, ← g4 j hj, Array.getElem?_toList]
          congr 1
          omega
        · rw [List.getElem?_eq_none (by simp; omega), List.getElem?_eq_none (by omega)]
      have ht1 : (C.toList.drop a.off).take ((m + 1) * r) = (C.toList.drop a.off).take (m * r) ++ vs := by
        rw [Nat.succ_mul, List.take_add, hvs]
      refine ⟨es ++ [elemV agg as], by simp [h1], ?_, ?_, ?_, ?_⟩
      · intro x hx
        rcases List.mem_append.1 hx with hx | hx
        · exact h2 x hx
        · exact ⟨as, g1, by simpa using hx⟩
      · intro x hx
        rcases List.mem_append.1 hx with hx | hx
        · exact h3 x hx
        · have : x = elemV agg as := by simpa using hx
          subst this
          exact ⟨k1, by rw [k2, g2.length]; exact g3⟩
      · rw [ht1, flatL_append, flatL_cons, k2]
        have : flatL ([] : List AV) = [] := rfl
        rw [this, List.append_nil]
        exact h4.append g2
      · rw [ht1, List.length_append, h5, g3, Nat.succ_mul]
  obtain ⟨es, h1, h2, h3, h4, h5⟩ := hind len (Nat.le_refl _)
  subst h1
  obtain ⟨b, off, spot⟩ := a
  simp only at hs
  subst hs
  have hcap2 : es.length ≤ cap := by
    simp only [DataW.trod, ht] at h
    split at h
    · rename_i hc; exact hc.2.1
    · cases h
  refine ⟨_, ⟨1, es, rfl, by omega, (fun h => by cases h), hreach, h2⟩, .cons ?_ .nil⟩
  refine FZ.sl 0 r 0 es b off cap C.toList _ hz h4 h3 hcap2 (fun h => by cases h) (by omega) (by rw [h5]) hlen
end Go.Eng
