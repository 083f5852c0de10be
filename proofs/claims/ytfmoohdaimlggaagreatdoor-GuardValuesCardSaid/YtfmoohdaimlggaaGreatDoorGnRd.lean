
/- A part of the proof that the evaluator in GnC, and the driver in GnZ, answer as the model does; no conditions. -/
import Derived.Test.YtfmoohdaimlggaaGreatDoorGnZS5
import Derived.DataReads
import Derived.DataElems
import GoSem.ClaimJoined
namespace Go.Eng
open Go.RowKit
/-! from what a row says of the arguments to what the driver is given -/
noncomputable def allZ (W : World) : Nat → Option (List Value) := fun x => match W.heap[x]? with | some (.cells C _ _) => some C.toList | _ => none
theorem allZ_hold (W : World) : HoldZ (allZ W) W := by
  intro x C h
  unfold allZ at h
  split at h
  · rename_i C' t fr e; cases h; exact ⟨t, fr, by simpa using e⟩
  · cases h
theorem allZ_some {W : World} {x : Nat} {C : Array Value} {t : TypeId} {fr : Nat × Nat} (h : W.heap[x]? = some (.cells C t fr)) : allZ W x = some C.toList := by
  unfold allZ; rw [h]
theorem mapM_at {α β : Type} {f : α → Option β} : ∀ {l : List α} {r : List β}, l.mapM f = some r → ∀ (i : Nat) (a : α), l[i]? = some a → ∃ b, f a = some b ∧ r[i]? = some b := by
  intro l
  induction l with
  | nil => intro r _ i a h; simp at h
  | cons x l ih =>
    intro r h i a hi
    simp only [List.mapM_cons, Option.bind_eq_bind, Option.pure_def] at h
    obtain ⟨y, hy, h⟩ := Option.bind_eq_some_iff.1 h
    obtain ⟨ys, hys, h⟩ := Option.bind_eq_some_iff.1 h
    cases h
    cases i with
    | zero => simp at hi; subst hi; exact ⟨y, hy, by simp⟩
    | succ i => simpa using ih hys i a (by simpa using hi)
variable {P : Program}
/-- reading a value of type t: R is what its cells look like -/
def Rdb (P : Program) (t : TypeId) (R : List AV → Prop) : Prop := ∀ (X : Type) (enc : TypeId × Value → X) (W : World) (spare : Nat → Bool) (held : Bool) (fuel : Nat) (cs : List Value) (x : DataW X × List MemPlace), DataW.trod enc P W 0 spare held fuel t cs = some x → (x.1.weights P t).all (· ≤ reachBytes) = true → ∃ as, R as ∧ FZs (allZ W) as cs
theorem each_at {X : Type} : ∀ {ts : List TypeId} {ds : List (DataW X)}, (DataW.weightsEach P ts ds).all (· ≤ reachBytes) = true → ∀ (i : Nat) (t : TypeId) (d : DataW X), ts[i]? = some t → ds[i]? = some d → (d.weights P t).all (· ≤ reachBytes) = true := by
  intro ts
  induction ts with
  | nil => intro ds _ i t d h; simp at h
  | cons t ts ih =>
    intro ds h i t' d' ht hd
    cases ds with
    | nil => simp at hd
    | cons d ds =>
      rw [DataW.weightsEach, List.all_append, Bool.and_eq_true] at h
      cases i with
      | zero => simp at ht hd; subst ht hd; exact h.1
      | succ i => exact ih h.2 i t' d' (by simpa using ht) (by simpa using hd)
theorem all_at {X : Type} {e : TypeId} : ∀ {ds : List (DataW X)}, (DataW.weightsAll P e ds).all (· ≤ reachBytes) = true → ∀ (i : Nat) (d : DataW X), ds[i]? = some d → (d.weights P e).all (· ≤ reachBytes) = true := by
  intro ds
  induction ds with
  | nil => intro _ i d h; simp at h
  | cons d ds ih =>
    intro h i d' hd
    rw [DataW.weightsAll, List.all_append, Bool.and_eq_true] at h
    cases i with
    | zero => simp at hd; subst hd; exact h.1
    | succ i => exact ih h.2 i d' (by simpa using hd)
theorem Rdb.weaken {t : TypeId} {R R' : List AV → Prop} (h : Rdb P t R) (hR : ∀ as, R as → R' as) : Rdb P t R' := by
  intro X enc W spare held fuel cs x hx hw
  obtain ⟨as, h1, h2⟩ := h X enc W spare held fuel cs x hx hw
  exact ⟨as, hR as h1, h2⟩
theorem wrap_self {c : Nat} (hc : c < 8) (n : Int) (h1 : (kOf c).min ≤ n) (h2 : n ≤ (kOf c).max) : (kOf c).wrap n = n := by
  rcases (by omega : c = 0 ∨ c = 1 ∨ c = 2 ∨ c = 3 ∨ c = 4 ∨ c = 5 ∨ c = 6 ∨ c = 7) with rfl | rfl | rfl | rfl | rfl | rfl | rfl | rfl <;>
    simp only [kOf, IntKind.min, IntKind.max, IntKind.wrap, IntKind.bits, IntKind.signed] at h1 h2 ⊢ <;> simp at h1 h2 ⊢ <;> omega
theorem rd_int {t : TypeId} (c : Nat) (hc : c < 8) (ht : P.underlying t = some (.int (kOf c))) : Rdb P t (fun as => ∃ p, p < kMod c ∧ as = [mk1 c p]) := by
  intro X enc W spare held fuel cs x h hwt
  have hv : ∃ v, cs = [v] := by
    cases fuel with
    | zero => cases h
    | succ n =>
      simp only [DataW.trod, ht] at h
      split at h <;> rename_i h1 h2 <;> first | (cases h; done) | (simp at h1; done) | (simp at h2; done) | exact ⟨_, rfl⟩
  obtain ⟨v, rfl⟩ := hv
  cases fuel with
  | zero => cases h
  | succ n =>
    simp only [DataW.trod, ht] at h
    split at h <;> rename_i h1 h2 <;> first | (cases h; done) | (simp at h1; done) | (simp at h2; done) | skip
    rename_i k1 k2 m
    simp only [Option.some.injEq, TypeDesc.int.injEq, List.cons.injEq, and_true] at h1 h2
    subst h2
    split at h
    · rename_i hcnd
      obtain ⟨hk2, hw⟩ := hcnd
      subst hk2
      subst h1
      simp only [Lit.wf, Bool.and_eq_true, decide_eq_true_eq] at hw
      have hpos : (0 : Int) < (kMod c : Int) := by
        have : 0 < kMod c := by rcases (by omega : c = 0 ∨ c = 1 ∨ c = 2 ∨ c = 3 ∨ c = 4 ∨ c = 5 ∨ c = 6 ∨ c = 7) with rfl | rfl | rfl | rfl | rfl | rfl | rfl | rfl <;> decide +kernel
        exact_mod_cast this
      have e1 := wrap_self hc m hw.1 hw.2
      rw [wrap_mod hc] at e1
      have hlt := Int.emod_lt_of_pos m hpos
      have hnn := Int.emod_nonneg m (by omega : (kMod c : Int) ≠ 0)
      refine ⟨[mk1 c (m % (kMod c : Int)).toNat], ⟨_, by omega, rfl⟩, .cons ?_ .nil⟩
      have := FZ.int (z := allZ W) c (m % (kMod c : Int)).toNat 0 0 [] hc (by omega)
      rw [e1] at this
      exact this
    · cases h
theorem rd_str {t : TypeId} (ht : P.underlying t = some .string) : Rdb P t (fun as => ∃ l : List UInt8, as = [⟨9, bytesN l, l.length, 0, 0, []⟩]) := by
  intro X enc W spare held fuel cs x h hwt
  have hv : ∃ v, cs = [v] := by
    cases fuel with
    | zero => cases h
    | succ n =>
      simp only [DataW.trod, ht] at h
      split at h <;> rename_i h1 h2 <;> first | (cases h; done) | (simp at h1; done) | (simp at h2; done) | exact ⟨_, rfl⟩
  obtain ⟨v, rfl⟩ := hv
  cases fuel with
  | zero => cases h
  | succ n =>
    simp only [DataW.trod, ht] at h
    split at h <;> rename_i h1 h2 <;> first | (cases h; done) | (simp at h1; done) | (simp at h2; done) | skip
    have h3 := (List.cons.inj h2).1
    subst h3
    rename_i s
    refine ⟨_, ⟨s.data.toList, rfl⟩, .cons ?_ .nil⟩
    have := FZ.str (z := allZ W) s.data.toList 0 0 []
    have e : (⟨s.data.toList.toArray⟩ : ByteArray) = s := by cases s; simp
    rw [e] at this
    exact this
inductive FitF (P : Program) : List Field → Nat → List (List AV → Prop) → Nat → Prop
  | nil (o : Nat) : FitF P [] o [] o
  | cons {f : Field} {l : List Field} {o m : Nat} {R : List AV → Prop} {Rs : List (List AV → Prop)} (c : Nat) : f.offset = o → P.cellsOf f.type = c → Rdb P f.type R → FitF P l (o + c) Rs m → FitF P (f :: l) o (R :: Rs) m
inductive Cat : List (List AV → Prop) → List AV → Prop
  | nil : Cat [] []
  | cons {R : List AV → Prop} {Rs : List (List AV → Prop)} {a as : List AV} : R a → Cat Rs as → Cat (R :: Rs) (a ++ as)
theorem FitF.go {X : Type} {enc : TypeId × Value → X} {W : World} {spare : Nat → Bool} {held : Bool} {fuel : Nat} {l : List Field} {o m : Nat} {Rs : List (List AV → Prop)} (h : FitF P l o Rs m) : ∀ {cs : List Value}, cs.length = m → (∀ (i : Nat) (f : Field), l[i]? = some f → ∃ x, DataW.trod enc P W 0 spare held fuel f.type ((cs.drop f.offset).take (P.cellsOf f.type)) = some x ∧ (x.1.weights P f.type).all (· ≤ reachBytes) = true) → ∃ as, Cat Rs as ∧ FZs (allZ W) as (cs.drop o) := by
  induction h with
  | nil o => intro cs hl _; exact ⟨[], .nil, by rw [List.drop_of_length_le (by omega)]; exact .nil⟩
  | cons c ho hc hR _ ih =>
    intro cs hl hall
    obtain ⟨x, hx, hxw⟩ := hall 0 _ rfl
    obtain ⟨a, ha, hz⟩ := hR X enc W spare held fuel _ x hx hxw
    obtain ⟨as, has, hzs⟩ := ih hl fun i f hf => hall (i + 1) f (by simpa using hf)
    refine ⟨a ++ as, .cons ha has, ?_⟩
    have := hz.append hzs
    rw [ho, hc] at this
    rw [← List.drop_drop] at this
    rw [List.take_append_drop] at this
    exact this
theorem rd_struct {t : TypeId} {fs : Array Field} {Rs : List (List AV → Prop)} (ht : P.underlying t = some (.struct fs)) (n : Nat) (hn : P.cellsOf t = n) (hf : FitF P fs.toList 0 Rs n) : Rdb P t (Cat Rs) := by
  intro X enc W spare held fuel cs x h hwt
  cases fuel with
  | zero => cases h
  | succ m =>
    simp only [DataW.trod, ht] at h
    split at h
    · rename_i hc
      obtain ⟨xs, h2, h3⟩ := Option.map_eq_some_iff.1 h
      subst h3
      simp only [DataW.weights, ht] at hwt
      have := hf.go (enc := enc) (W := W) (spare := spare) (held := held) (fuel := m) (cs := cs) (by omega) fun i f hi => by
        obtain ⟨b, hb, hb2⟩ := mapM_at h2 i f hi
        exact ⟨b, hb, each_at hwt i f.type b.1 (by rw [List.getElem?_map, hi]; rfl) (by rw [List.getElem?_map, hb2]; rfl)⟩
      simpa using this
    · cases h
def IsList (R : List AV → Prop) (agg : Bool) (r : Nat) (as : List AV) : Prop := ∃ p es, as = [⟨24, p, 0, r, 0, es⟩] ∧ p ≤ 1 ∧ (p = 0 → es = []) ∧ es.length ≤ reachBytes ∧ ∀ x ∈ es, ∃ bs, R bs ∧ x = elemV agg bs
theorem cell_blk {w : World} {a : Addr} {v : Value} (h : w.cell? a = some v) : ∃ C t fr, w.heap[a.block]? = some (.cells C t fr) ∧ C[a.off]? = some v ∧ a.spot = none := by
  have hs := World.cell?_spot h
  unfold World.cell? at h
  split at h
  · rename_i C t fr e
    rw [hs] at h
    exact ⟨C, t, fr, e, by simpa using h, hs⟩
  · cases h
theorem elem_ok {z : Nat → Option (List Value)} {agg : Bool} {r : Nat} {bs : List AV} {vs : List Value} (hz : FZs z bs vs) (hl : vs.length = r) (ha : agg = false → r = 1) : cellsOk (elemV agg bs) = true ∧ cellsOf (elemV agg bs) = bs := by
  cases agg with
  | true => exact ⟨rfl, rfl⟩
  | false =>
    have h1 := ha rfl
    have h2 := hz.length
    obtain ⟨b, rfl⟩ := List.length_eq_one_iff.1 (h2.trans (hl.trans h1))
    cases hz with
    | cons g _ => exact cells_one g g.one
theorem rd_slice {t e : TypeId} {R : List AV → Prop} (ht : P.underlying t = some (.slice e)) (hby : 0 < P.bytesOf e) (r : Nat) (hr : P.cellsOf e = r) (h0 : 0 < r) (agg : Bool) (ha : agg = false → r = 1) (hR : Rdb P e R) : Rdb P t (IsList R agg r) := by
  intro X enc W spare held fuel cs x h hwt
  have hv : ∃ v, cs = [v] := by
    cases fuel with
    | zero => cases h
    | succ n =>
      simp only [DataW.trod, ht] at h
      split at h <;> rename_i h1 h2 <;> first | (cases h; done) | (simp at h1; done) | (simp at h2; done) | exact ⟨_, rfl⟩
  obtain ⟨v, rfl⟩ := hv
  rcases trod_slice ht h with rfl | ⟨a, len, cap, n, elems, rfl, rfl, hcap, hel⟩
  · exact ⟨[⟨24, 0, 0, r, 0, []⟩], ⟨0, [], rfl, by omega, fun _ => rfl, Nat.zero_le _, fun x hx => by cases hx⟩, .cons (.nils 0 r 0) .nil⟩
  have hmax : maxLen = 9223372036854775807 := by decide +kernel
  rw [hr] at hel
  have hd : ∃ spare', x.1 = .slice (elems.map (·.1)) spare' := by
    simp only [DataW.trod, ht] at h
    split at h
    · obtain ⟨elems', he', h⟩ := Option.bind_eq_some_iff.1 h
      rw [hr, hel] at he'
      cases he'
      obtain ⟨rest, _, h⟩ := Option.map_eq_some_iff.1 h
      cases h
      exact ⟨_, rfl⟩
    · cases h
  obtain ⟨spare', hd⟩ := hd
  rw [hd] at hwt
  simp only [DataW.weights, ht, List.all_cons, Bool.and_eq_true, List.all_append, decide_eq_true_eq] at hwt
  have hlenE : elems.length = len := by
    have := mapM_some_length hel
    simpa using this
  have hreach : len ≤ reachBytes := by
    have h1 := hwt.1
    rw [List.length_map, hlenE] at h1
    have h2 : len + spare'.length ≤ (len + spare'.length) * P.bytesOf e := Nat.le_mul_of_pos_right _ hby
    omega
  rcases Nat.eq_zero_or_pos len with rfl | hlen
  · exact ⟨[⟨24, 1, 0, r, 0, []⟩], ⟨1, [], rfl, by omega, (fun h => by cases h), (Nat.zero_le _), (fun x hx => by cases hx)⟩, .cons (.empty 0 r a cap) .nil⟩
  have key : ∀ i, i < len → ∃ as vs, R as ∧ FZs (allZ W) as vs ∧ vs.length = r ∧ ∀ j, j < r → W.cell? ((a.add (i * r)).add j) = vs[j]? := by
    intro i hi
    obtain ⟨y, hy, hy2⟩ := mapM_at hel i i (by simp [hi])
    obtain ⟨vs, hvs, hy⟩ := Option.bind_eq_some_iff.1 hy
    obtain ⟨as, h1, h2⟩ := hR X enc W spare held n vs y hy (all_at hwt.2.1 i y.1 (by rw [List.getElem?_map, hy2]; rfl))
    obtain ⟨_, g1, g2⟩ := World.cells?_some hvs
    exact ⟨as, vs, h1, h2, g1, g2⟩
  obtain ⟨_, vs0, _, _, l0, c0⟩ := key 0 hlen
  have c00 := c0 0 h0
  have e00 : (a.add (0 * r)).add 0 = a := by simp [Addr.add]
  rw [e00, List.getElem?_eq_getElem (by omega)] at c00
  obtain ⟨C, tt, fr, hC, _, hs⟩ := cell_blk c00
  have hz := allZ_some hC
  have hat : ∀ i, i < len → ∃ as vs, R as ∧ FZs (allZ W) as vs ∧ vs.length = r ∧ ∀ j, j < r → C[a.off + i * r + j]? = vs[j]? := by
    intro i hi
    obtain ⟨as, vs, h1, h2, h3, h4⟩ := key i hi
    refine ⟨as, vs, h1, h2, h3, fun j hj => ?_⟩
    have h5 := h4 j hj
    have hb : ((a.add (i * r)).add j).block = a.block ∧ ((a.add (i * r)).add j).off = a.off + i * r + j := by
      unfold Addr.add
      split <;> split <;> simp_all
    rw [List.getElem?_eq_getElem (by omega)] at h5 ⊢
    obtain ⟨C', _, _, hC', hc', _⟩ := cell_blk h5
    rw [hb.1, hC] at hC'
    cases hC'
    rw [hb.2] at hc'
    exact hc'
  have hind : ∀ m, m ≤ len → ∃ es : List AV, es.length = m ∧ (∀ x ∈ es, ∃ bs, R bs ∧ x = elemV agg bs) ∧ (∀ c ∈ es, cellsOk c = true ∧ (cellsOf c).length = r) ∧ FZs (allZ W) (flatL es) ((C.toList.drop a.off).take (m * r)) ∧ ((C.toList.drop a.off).take (m * r)).length = m * r := by
    intro m
    induction m with
    | zero => intro _; exact ⟨[], rfl, (fun x hx => by cases hx), (fun x hx => by cases hx), by simp; exact .nil, by simp⟩
    | succ m ih =>
      intro hm
      obtain ⟨es, h1, h2, h3, h4, h5⟩ := ih (by omega)
      obtain ⟨as, vs, g1, g2, g3, g4⟩ := hat m (by omega)
      obtain ⟨k1, k2⟩ := elem_ok (agg := agg) (r := r) g2 g3 ha
      have hvs : ((C.toList.drop a.off).drop (m * r)).take r = vs := by
        apply List.ext_getElem?
        intro j
        by_cases hj : j < r
        · rw [List.getElem?_take_of_lt hj, List.getElem?_drop, List.getElem?_drop, ← g4 j hj, Array.getElem?_toList]
          congr 1
          omega
        · rw [List.getElem?_eq_none (by simp; omega), List.getElem?_eq_none (by omega)]
      have ht1 : (C.toList.drop a.off).take ((m + 1) * r) = (C.toList.drop a.off).take (m * r) ++ vs := by
        rw [Nat.succ_mul, List.take_add, hvs]
      refine ⟨es ++ [elemV agg as], by simp [h1], ?_, ?_, ?_, ?_⟩
      · intro x hx
        rcases List.mem_append.1 hx with hx | hx
        · exact h2 x hx
        · exact ⟨as, g1, by simpa using hx⟩
      · intro x hx
        rcases List.mem_append.1 hx with hx | hx
        · exact h3 x hx
        · have : x = elemV agg as := by simpa using hx
          subst this
          exact ⟨k1, by rw [k2, g2.length]; exact g3⟩
      · rw [ht1, flatL_append, flatL_cons, k2]
        have : flatL ([] : List AV) = [] := rfl
        rw [this, List.append_nil]
        exact h4.append g2
      · rw [ht1, List.length_append, h5, g3, Nat.succ_mul]
  obtain ⟨es, h1, h2, h3, h4, h5⟩ := hind len (Nat.le_refl _)
  subst h1
  obtain ⟨b, off, spot⟩ := a
  simp only at hs
  subst hs
  have hcap2 : es.length ≤ cap := by
    simp only [DataW.trod, ht] at h
    split at h
    · rename_i hc; exact hc.2.1
    · cases h
  refine ⟨_, ⟨1, es, rfl, by omega, (fun h => by cases h), hreach, h2⟩, .cons ?_ .nil⟩
  refine FZ.sl 0 r 0 es b off cap C.toList _ hz h4 h3 hcap2 (fun h => by cases h) (by omega) (by rw [h5]) hlen
end Go.Eng
