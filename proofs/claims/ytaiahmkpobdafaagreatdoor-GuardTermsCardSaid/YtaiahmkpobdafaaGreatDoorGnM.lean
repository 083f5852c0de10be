/- A part of the proof that the evaluator in GnC, and the driver in GnZ, answer as the model does; no conditions. -/
import Derived.Test.YtaiahmkpobdafaaGreatDoorGnS21
namespace Go.Eng
open Go.RowKit
variable {P : Program} {w0 : World} {H : Hp} {φ φ' φ'' : Ph} {w : World} {n0 : Nat} {L : List (Nat × AB)}

/-! ### results that differ by an order alone -/
theorem matV_succ (n : Nat) (v : AV) (l : List (Nat × AB)) : matV H n0 (n + 1) v l =
    bi (bi (nble 10 v.tag) (nble v.tag 12) false)
      (bi (nble (Nat.succ v.p) n0) (some (v, l)) (bi (bi (nbeq (hget H v.p).kind 1) true (nbeq (hget H v.p).kind 2)) (om (matL (matV H n0 n) (hget H v.p).cs l) none fun y =>
        some (⟨v.tag, Nat.add n0 (lenL y.l), v.q, v.r, v.s, []⟩, appL y.l [(v.p, ⟨(hget H v.p).kind, (hget H v.p).t, (hget H v.p).e, y.v⟩)])) none))
      (bi (bi (nble 13 v.tag) (nble v.tag 16) false) (bi (nbeq v.tag 14) none (om (matL (matV H n0 n) v.cs l) none fun y => some (⟨v.tag, v.p, v.q, v.r, v.s, y.v⟩, y.l))) (bi (bi (nbeq v.tag 18) true (nble 24 v.tag)) none (some (v, l)))) := rfl
theorem matL_nil {f : AV → List (Nat × AB) → Option (AV × List (Nat × AB))} {l : List (Nat × AB)} : matL f [] l = some ⟨[], l⟩ := rfl
theorem matL_cons {f : AV → List (Nat × AB) → Option (AV × List (Nat × AB))} {v : AV} {vs : List AV} {l : List (Nat × AB)} {y : MS} (h : matL f (v :: vs) l = some y) :
    ∃ a b, f v l = some a ∧ matL f vs a.2 = some b ∧ y = ⟨a.1 :: b.v, b.l⟩ := by
  have h' : om (f v l) none (fun x => om (matL f vs x.2) none fun y => some ⟨x.1 :: y.v, y.l⟩) = some y := h
  cases ha : f v l with
  | none => rw [ha] at h'; cases h'
  | some a =>
    rw [ha, om_some] at h'
    cases hb : matL f vs a.2 with
    | none => rw [hb] at h'; cases h'
    | some b => rw [hb, om_some] at h'; cases h'; exact ⟨a, b, rfl, hb, rfl⟩

def GoodM (P : Program) (H : Hp) (n0 : Nat) (φ' φ'' : Ph) (a : Nat × AB) : Prop :=
  n0 ≤ a.1 ∧ (∃ x, φ' a.1 = some x) ∧ (a.2.kind = (hget H a.1).kind ∧ (hget H a.1).kind < 6) ∧ (hget H a.1).kind ≠ 0 ∧ ∀ x o, BRel P φ' x (hget H a.1) o → BRel P φ'' x a.2 o
/-- what is copied out stands for the same -/
def MatOk (P : Program) (H : Hp) (n0 : Nat) (φ' φ'' : Ph) (L : List (Nat × AB)) (f : AV → List (Nat × AB) → Option (AV × List (Nat × AB))) : Prop :=
  ∀ v l y, f v l = some y → l <+: y.2 ∧ (y.2 <+: L → ∀ val, VR φ' v val → VR φ'' y.1 val ∧ (y.1.tag = v.tag ∧ (v.tag = 15 → y.1.cs.map (·.tag) = v.cs.map (·.tag))) ∧ ∀ a ∈ y.2, a ∈ l ∨ GoodM P H n0 φ' φ'' a)
theorem matL_ok {f : AV → List (Nat × AB) → Option (AV × List (Nat × AB))} (hf : MatOk P H n0 φ' φ'' L f) (vs : List AV) : ∀ (l : List (Nat × AB)) (y : MS), matL f vs l = some y →
    l <+: y.l ∧ (y.l <+: L → ∀ vals, VRs φ' vs vals → VRs φ'' y.v vals ∧ y.v.map (·.tag) = vs.map (·.tag) ∧ ∀ a ∈ y.l, a ∈ l ∨ GoodM P H n0 φ' φ'' a) := by
  induction vs with
  | nil => intro l y h; cases h; exact ⟨List.prefix_rfl, fun _ vals h => by cases h; exact ⟨.nil, rfl, fun a h => .inl h⟩⟩
  | cons v vs ih =>
    intro l y h
    obtain ⟨a, b, ha, hb, rfl⟩ := matL_cons h
    obtain ⟨h1, h2⟩ := hf v l a ha
    obtain ⟨h3, h4⟩ := ih a.2 b hb
    refine ⟨h1.trans h3, fun hp vals hv => ?_⟩
    cases hv with
    | cons g1 g2 =>
      obtain ⟨e1, e2, e3⟩ := h2 (h3.trans hp) _ g1
      obtain ⟨e4, e5, e6⟩ := h4 hp _ g2
      refine ⟨.cons e1 e4, by simp [e2.1, e5], fun c hc => ?_⟩
      rcases e6 c hc with h | h
      · exact e3 c h
      · exact .inr h
theorem keyA_eq {kt : Nat} {a b : AV} (h : a.tag = b.tag ∧ (b.tag = 15 → a.cs.map (·.tag) = b.cs.map (·.tag))) : keyA kt a = keyA kt b := by
  unfold keyA
  rw [h.1]
  cases nble 32 kt
  · rfl
  · rw [bi_true, bi_true]
    cases hb : nbeq b.tag 15
    · rfl
    · have e := h.2 (beq_true.1 hb)
      have e1 : lenL a.cs = lenL b.cs := by
        rw [lenL_eq, lenL_eq]
        have := congrArg List.length e
        simpa using this
      have e2 : ∀ l : List AV, allL (fun c => nbeq c.tag (Nat.mod kt 8)) l = (l.map (·.tag)).all fun t => nbeq t (Nat.mod kt 8) := fun l => by rw [allL_eq, List.all_map]; rfl
      rw [e1, e2, e2, e]
theorem matE_ok {n : Nat} (ih : ∀ m < n, MatOk P H n0 φ' φ'' L (matV H n0 m)) {b q r s : Nat} {k v : AV} {ek ev : Value} {l : List (Nat × AB)} {y : AV × List (Nat × AB)}
    (h : matV H n0 n ⟨16, b, q, r, s, [k, v]⟩ l = some y) (hp : y.2 <+: L) (hk : VR φ' k ek) (hv : VR φ' v ev) :
    ∃ k' v', y.1 = ⟨16, b, q, r, s, [k', v']⟩ ∧ VR φ'' k' ek ∧ (k'.tag = k.tag ∧ (k.tag = 15 → k'.cs.map (·.tag) = k.cs.map (·.tag))) ∧ VR φ'' v' ev ∧ ∀ a ∈ y.2, a ∈ l ∨ GoodM P H n0 φ' φ'' a := by
  cases n with
  | zero => cases h
  | succ n =>
    rw [matV_succ] at h
    have h' : om (matL (matV H n0 n) [k, v] l) none (fun y => some ((⟨16, b, q, r, s, y.v⟩ : AV), y.l)) = some y := h
    cases hm : matL (matV H n0 n) [k, v] l with
    | none => rw [hm] at h'; cases h'
    | some z =>
      rw [hm, om_some] at h'
      cases h'
      obtain ⟨a, z1, ha, hb, rfl⟩ := matL_cons hm
      obtain ⟨a2, z2, ha2, hb2, rfl⟩ := matL_cons hb
      cases hb2
      have ihn := ih n (Nat.lt_succ_self n)
      obtain ⟨p1, q1⟩ := ihn _ _ _ ha
      obtain ⟨p2, q2⟩ := ihn _ _ _ ha2
      obtain ⟨e1, e2, e3⟩ := q2 hp _ hv
      obtain ⟨e4, e5, e6⟩ := q1 (p2.trans hp) _ hk
      exact ⟨a.1, a2.1, rfl, e4, e5, e1, fun c hc => (e3 c hc).elim (e6 c) .inr⟩
theorem matEnts {n : Nat} (ih : ∀ m < n, MatOk P H n0 φ' φ'' L (matV H n0 m)) (hn : MatOk P H n0 φ' φ'' L (matV H n0 n)) {kt ck : Nat} {cs : List AV} {es : List MapEntry} (he : Ents φ' kt ck cs es) :
    ∀ (l : List (Nat × AB)) (y : MS), matL (matV H n0 n) cs l = some y → y.l <+: L → Ents φ'' kt ck y.v es ∧ ∀ a ∈ y.l, a ∈ l ∨ GoodM P H n0 φ' φ'' a := by
  induction he with
  | nil => intro l y h _; cases h; exact ⟨.nil, fun a h => .inl h⟩
  | cons g1 g2 g3 g4 _ ihe =>
    intro l y h hp
    obtain ⟨a, b, ha, hb, rfl⟩ := matL_cons h
    obtain ⟨h3, _⟩ := matL_ok hn _ a.2 b hb
    obtain ⟨k', v', e1, e2, e3, e4, e5⟩ := matE_ok ih ha (h3.trans hp) g1 g3
    obtain ⟨e6, e7⟩ := ihe a.2 b hb hp
    refine ⟨?_, fun c hc => ?_⟩
    · rw [e1]; exact .cons e2 ((keyA_eq e3).trans g2) e4 g4 e6
    · rcases e7 c hc with h | h
      · exact e5 c h
      · exact .inr h
theorem okCell_eq {a b : AV} (h : a.tag = b.tag) : okCell a = okCell b := by unfold okCell; rw [h]
theorem okCells_eq {l l' : List AV} (h : l.map (·.tag) = l'.map (·.tag)) (hl : ∀ c ∈ l', okCell c = true) : ∀ c ∈ l, okCell c = true := by
  intro c hc
  obtain ⟨i, hi⟩ := List.mem_iff_getElem?.1 hc
  have h1 : (l.map (·.tag))[i]? = some c.tag := by simp [hi]
  rw [h] at h1
  simp only [List.getElem?_map, Option.map_eq_some_iff] at h1
  obtain ⟨d, hd, he⟩ := h1
  rw [okCell_eq he.symm]
  exact hl d (List.mem_of_getElem? hd)
theorem VR.leaf (hlow : ∀ b, b < n0 → φ'' b = φ' b) (hk : ∀ x, φ''.k x = φ'.k x) (hop : φ''.op = φ'.op) {v : AV} {val : Value} (h : VR φ' v val) (h1 : v.tag < 10 ∨ 16 < v.tag ∨ (v.tag ≤ 12 ∧ v.p < n0)) (h24 : v.tag < 24) : VR φ'' v val := by
  cases h with
  | frz | fptr | own | ownn | owne | optr => simp at h24
  | int c p r s cs e1 e2 => exact .int c p r s cs e1 e2
  | bool b r s cs => exact .bool b r s cs
  | str l r s cs => exact .str l r s cs
  | ptr b x off r s cs h => exact .ptr b x off r s cs (by rw [hlow b (by simp at h1; omega)]; exact h)
  | sl b x off len cap s cs h g1 g2 g3 g4 => exact .sl b x off len cap s cs (by rw [hlow b (by simp at h1; omega)]; exact h) g1 g2 g3 (fun e1 e2 => (g4 e1 e2).trans (hk x).symm)
  | map b x q r s cs h => exact .map b x q r s cs (by rw [hlow b (by simp at h1; omega)]; exact h)
  | fn => simp at h1
  | yld => simp at h1
  | agg => simp at h1
  | tup => simp at h1
  | nilp q r s cs => exact .nilp q r s cs
  | nils q r s cs => exact .nils q r s cs
  | nilm q r s cs => exact .nilm q r s cs
  | nilf q r s cs => exact .nilf q r s cs
  | nili q r s cs => exact .nili q r s cs
  | unk => exact .unk _ _ _ _ _ _
  | ud p q r s cs => exact .ud p q r s cs
  | neg p q r s cs n h => exact .neg p q r s cs n h
  | pos p q r s cs n h => exact .pos p q r s cs n h
  | opq p q r s cs _ h1 h2 h3 => exact .opq p q r s cs _ (h1.mono hop) h2 h3
theorem matV_ok (hr : HR P w0 H φ' w) (hlow : ∀ b, b < n0 → φ'' b = φ' b) (hk : ∀ x, φ''.k x = φ'.k x) (hop : φ''.op = φ'.op) (hnew : ∀ i a, L[i]? = some a → φ'' (n0 + i) = φ' a.1) (n : Nat) : MatOk P H n0 φ' φ'' L (matV H n0 n) := by
  induction n using Nat.strongRecOn with
  | _ n ih =>
    cases n with
    | zero => intro v l y h; cases h
    | succ n =>
      intro v l y h
      rw [matV_succ] at h
      cases h1 : bi (nble 10 v.tag) (nble v.tag 12) false
      · rw [h1, bi_false] at h
        cases h2 : bi (nble 13 v.tag) (nble v.tag 16) false
        · rw [h2, bi_false] at h
          cases h18 : bi (nbeq v.tag 18) true (nble 24 v.tag)
          · rw [h18, bi_false] at h
            cases h
            have h24 : v.tag < 24 := by
              cases h24 : nble 24 v.tag
              · exact ble_false.1 h24
              · rw [h24] at h18; cases hb : nbeq v.tag 18 <;> rw [hb] at h18 <;> cases h18
            refine ⟨List.prefix_rfl, fun _ val hv => ⟨hv.leaf hlow hk hop ?_ h24, ⟨rfl, fun _ => rfl⟩, fun a h => .inl h⟩⟩
            have e1 := mt bi_and.2 (by rw [h1]; simp)
            have e2 := mt bi_and.2 (by rw [h2]; simp)
            rw [ble_true, ble_true] at e1 e2
            omega
          · rw [h18] at h; cases h
        · rw [h2, bi_true] at h
          obtain ⟨e1, e2⟩ := bi_and.1 h2
          have e1 := ble_true.1 e1
          have e2 := ble_true.1 e2
          have h14 : nbeq v.tag 14 = false := by
            cases h14 : nbeq v.tag 14
            · rfl
            · rw [h14] at h; cases h
          rw [h14, bi_false] at h
          cases hm : matL (matV H n0 n) v.cs l with
          | none => rw [hm] at h; cases h
          | some z =>
            rw [hm, om_some] at h
            cases h
            obtain ⟨g1, g2⟩ := matL_ok (ih n (Nat.lt_succ_self n)) v.cs l z hm
            refine ⟨g1, fun hp val hv => ?_⟩
            cases hv with
            | fn f q r s cs first cap hcs hq =>
              obtain ⟨g3, g4, g5⟩ := g2 hp _ hcs
              exact ⟨.fn f q r s _ first cap g3 hq, ⟨rfl, fun h => by cases h⟩, g5⟩
            | agg p q r s cs vals hcs hok =>
              obtain ⟨g3, g4, g5⟩ := g2 hp _ hcs
              exact ⟨.agg p q r s _ vals g3 (okCells_eq g4 hok), ⟨rfl, fun _ => g4⟩, g5⟩
            | yld => exact absurd rfl (beq_false.1 h14)
            | tup p q r s cs vals hcs =>
              obtain ⟨g3, g4, g5⟩ := g2 hp _ hcs
              exact ⟨.tup p q r s _ vals g3, ⟨rfl, fun h => by cases h⟩, g5⟩
            | int => simp at e1; omega
            | _ => simp at e1 e2
      · rw [h1, bi_true] at h
        obtain ⟨t1, t2⟩ := bi_and.1 h1
        have t1 := ble_true.1 t1
        have t2 := ble_true.1 t2
        cases hb : nble (Nat.succ v.p) n0
        · rw [hb, bi_false] at h
          cases hkd : bi (nbeq (hget H v.p).kind 1) true (nbeq (hget H v.p).kind 2)
          · rw [hkd] at h; cases h
          · rw [hkd, bi_true] at h
            cases hm : matL (matV H n0 n) (hget H v.p).cs l with
            | none => rw [hm] at h; cases h
            | some z =>
              rw [hm, om_some, appL_eq] at h
              cases h
              have hn := ih n (Nat.lt_succ_self n)
              obtain ⟨g1, g2⟩ := matL_ok hn _ l z hm
              refine ⟨g1.trans (List.prefix_append _ _), fun hp val hv => ?_⟩
              have hzl : z.l <+: L := (List.prefix_append _ _).trans hp
              have hat : φ'' (n0 + z.l.length) = φ' v.p := by
                refine hnew z.l.length (v.p, ⟨(hget H v.p).kind, (hget H v.p).t, (hget H v.p).e, z.v⟩) ?_
                obtain ⟨t, ht⟩ := hp
                rw [← ht]; simp
              have hx : ∃ x, φ' v.p = some x := by
                cases hv with
                | ptr b x off r s cs h => exact ⟨x, h⟩
                | sl b x off len cap s cs h => exact ⟨x, h⟩
                | map b x q r s cs h => exact ⟨x, h⟩
                | int => simp at t1; omega
                | _ => simp at t1 t2
              obtain ⟨x, hx⟩ := hx
              obtain ⟨_, _, o, _, hB⟩ := hr.blk _ _ hx
              have hkne : (hget H v.p).kind ≠ 0 := by
                rcases bi_or.1 hkd with h | h <;> have := beq_true.1 h <;> omega
              have hsub : ∀ a ∈ z.l, a ∈ l ∨ GoodM P H n0 φ' φ'' a := by
                rcases bi_or.1 hkd with h | h
                · obtain ⟨vals, _, _, _, hcs, _, _⟩ := hB.cells (beq_true.1 h)
                  exact (g2 hzl _ hcs).2.2
                · obtain ⟨es, _, hes, _⟩ := hB.map (beq_true.1 h)
                  exact (matEnts (fun m hm => ih m (by omega)) hn hes l z hm hzl).2
              have hgood : GoodM P H n0 φ' φ'' (v.p, ⟨(hget H v.p).kind, (hget H v.p).t, (hget H v.p).e, z.v⟩) := by
                refine ⟨Nat.le_of_lt_succ (ble_false.1 hb), ⟨x, hx⟩, ⟨rfl, by show (hget H v.p).kind < 6; rcases bi_or.1 hkd with h | h <;> have := beq_true.1 h <;> omega⟩, hkne, fun x o hB => ⟨fun h1 => ?_, fun h2 => ?_, fun h3 => ?_, fun h4 => ?_⟩⟩
                · obtain ⟨vals, rest, t, e1, e2, e3, e4⟩ := hB.cells h1
                  obtain ⟨f1, f2, _⟩ := g2 hzl _ e2
                  exact ⟨vals, rest, t, e1, f1, okCells_eq f2 e3, fun he => by rw [hk]; exact e4 he⟩
                · obtain ⟨es, e1, e2, e3⟩ := hB.map h2
                  exact ⟨es, e1, (matEnts (fun m hm => ih m (by omega)) hn e2 l z hm hzl).1, e3⟩
                · have h3 : (hget H v.p).kind = 3 := h3
                  rcases bi_or.1 hkd with h | h <;> have := beq_true.1 h <;> omega
                · have h4 : 4 ≤ (hget H v.p).kind := h4
                  rcases bi_or.1 hkd with h | h <;> have := beq_true.1 h <;> omega
              have hlen : Nat.add n0 (lenL z.l) = n0 + z.l.length := by rw [lenL_eq]; rfl
              refine ⟨?_, ⟨rfl, fun h => absurd h (by omega)⟩, fun a ha => ?_⟩
              · simp only [hlen]
                cases hv with
                | ptr b x off r s cs h => exact .ptr _ x off r s _ (hat.trans h)
                | sl b x off len cap s cs h e1 e2 e3 e4 => exact .sl _ x off len cap s _ (hat.trans h) e1 e2 e3 (fun f1 f2 => (e4 f1 f2).trans (hk x).symm)
                | map b x q r s cs h => exact .map _ x q r s _ (hat.trans h)
                | int => simp at t1; omega
                | _ => simp at t1 t2
              · rcases List.mem_append.1 ha with h | h
                · exact hsub a h
                · rw [List.mem_singleton.1 h]; exact .inr hgood
        · rw [hb, bi_true] at h
          cases h
          exact ⟨List.prefix_rfl, fun _ val hv => ⟨hv.leaf hlow hk hop (by have := ble_true.1 hb; omega) (by omega), ⟨rfl, fun _ => rfl⟩, fun a h => .inl h⟩⟩
end Go.Eng
