/- A part of the proof that the evaluator in GnC, and the driver in GnZ, answer as the model does; no conditions. -/
import Derived.Test.YtfbgcggkgelaaaaGreatDoorGnS7
namespace Go.Eng
open Go.RowKit
variable {P : Program} {w0 : World} {H : Hp} {φ : Ph} {c : Kont} {w : World} {z : Nat → Option (List Value)}

theorem bi_and {a b : Bool} : bi a b false = true ↔ a = true ∧ b = true := by cases a <;> cases b <;> simp [bi]
theorem bi_or {a b : Bool} : bi a true b = true ↔ a = true ∨ b = true := by cases a <;> cases b <;> simp [bi]
/-! ### values that nobody writes to -/
theorem FZ.vr {a : AV} {v : Value} (h : FZ φ.fz a v) : VR φ a v :=
  FZ.rec (motive_1 := fun a v _ => VR φ a v) (motive_2 := fun as vs _ => VRs φ as vs)
    (fun c p r s cs h1 h2 => .int c p r s cs h1 h2) (fun b r s cs => .bool b r s cs) (fun l r s cs => .str l r s cs)
    (fun q r s cs => .nilp q r s cs) (fun q r s cs => .nilm q r s cs) (fun q r s cs => .nilf q r s cs) (fun q r s => .frz _ _ _ _ _ _ (.nils q r s)) (fun q r a cap => .frz _ _ _ _ _ _ (.empty q r a cap)) (fun q r s a => .frz _ _ _ _ _ _ (.done q r s a))
    (fun q r s cs x off cap C l h1 h2 h3 h4 h5 h6 h7 h8 _ => .frz _ _ _ _ _ _ (.sl q r s cs x off cap C l h1 h2 h3 h4 h5 h6 h7 h8))
    (fun q r s x off e C l h1 h2 h3 h4 _ => .fptr _ _ _ _ _ _ (.ptr q r s x off e C l h1 h2 h3 h4)) .nil (fun _ _ i1 i2 => .cons i1 i2) h
theorem FZs.vrs {as : List AV} {vs : List Value} (h : FZs φ.fz as vs) : VRs φ as vs := by
  induction as generalizing vs with
  | nil => cases h; exact .nil
  | cons a as ih => cases h with | cons h1 h2 => exact .cons h1.vr (ih h2)
theorem FZs.length {as : List AV} {vs : List Value} (h : FZs z as vs) : as.length = vs.length := by
  induction as generalizing vs with
  | nil => cases h; rfl
  | cons a as ih => cases h with | cons h1 h2 => simp [ih h2]
theorem FZs.get {as : List AV} {vs : List Value} (h : FZs z as vs) {i : Nat} {a : AV} (ha : as[i]? = some a) : ∃ v, vs[i]? = some v ∧ FZ z a v := by
  induction as generalizing vs i with
  | nil => simp at ha
  | cons x as ih => cases h with
    | cons h1 h2 => cases i with
      | zero => simp at ha; subst ha; exact ⟨_, by simp, h1⟩
      | succ i => simpa using ih h2 (by simpa using ha)
theorem FZs.append {as bs : List AV} {vs ws : List Value} (h : FZs z as vs) (h' : FZs z bs ws) : FZs z (as ++ bs) (vs ++ ws) := by
  induction as generalizing vs with
  | nil => cases h; exact h'
  | cons a as ih => cases h with | cons h1 h2 => exact .cons h1 (ih h2)
theorem FZs.take {as : List AV} {vs : List Value} (h : FZs z as vs) (n : Nat) : FZs z (as.take n) (vs.take n) := by
  induction as generalizing vs n with
  | nil => cases h; simp; exact .nil
  | cons a as ih => cases h with
    | cons h1 h2 => cases n with
      | zero => exact .nil
      | succ n => exact .cons h1 (ih h2 n)
theorem FZs.drop {as : List AV} {vs : List Value} (h : FZs z as vs) (n : Nat) : FZs z (as.drop n) (vs.drop n) := by
  induction as generalizing vs n with
  | nil => cases h; simp; exact .nil
  | cons a as ih => cases h with
    | cons h1 h2 => cases n with
      | zero => exact .cons h1 h2
      | succ n => exact ih h2 n
theorem FZ.one {a : AV} {v : Value} (h : FZ z a v) : okCell a = true := by
  cases h <;> first | rfl | (unfold okCell; simp only; rw [ble_true.2 (by omega)]; rfl)
theorem VR.of_frz {a : AV} {v : Value} (h : VR φ a v) (ht : a.tag = 24) : FZ φ.fz a v := by
  cases h <;> simp only at ht <;> first | assumption | omega
theorem VR.of_fptr {a : AV} {v : Value} (h : VR φ a v) (ht : a.tag = 26) : FZ φ.fz a v := by
  cases h <;> simp only at ht <;> first | assumption | omega
theorem FZ.of_ptr {a : AV} {v : Value} (h : FZ z a v) (ht : a.tag = 26) : ∃ e x off C l, a.cs = [e] ∧ z x = some C ∧ FZs z (cellsOf e) l ∧ cellsOk e = true ∧ (C.drop off).take l.length = l ∧ v = .pointer (some ⟨x, off + a.q, none⟩) := by
  cases h <;> simp only at ht <;> first | exact ⟨_, _, _, _, _, rfl, by assumption, by assumption, by assumption, by assumption, rfl⟩ | omega
/-- what a slice of these is -/
inductive FSl (z : Nat → Option (List Value)) (a : AV) : Value → Prop
  | nil : a.p = 0 → a.cs = [] → FSl z a (.slice none 0 0)
  | empty (ad : Addr) (cap : Nat) : a.p = 1 → a.cs = [] → (a.s = 0 ∨ cap = 0) → FSl z a (.slice (some ad) 0 cap)
  | sl (x off cap : Nat) (C l : List Value) : a.p = 1 → z x = some C → FZs z (flatL a.cs) l → (∀ c ∈ a.cs, cellsOk c = true ∧ (cellsOf c).length = a.r) → a.cs.length ≤ cap → (a.s = 1 → cap = a.cs.length) → a.cs.length < 2 ^ 63 →
      (C.drop off).take l.length = l → 0 < a.cs.length → FSl z a (.slice (some ⟨x, off, none⟩) a.cs.length cap)
theorem FZ.of_sl {a : AV} {v : Value} (h : FZ z a v) (ht : a.tag = 24) : FSl z a v := by
  cases h with
  | nils q r s => exact .nil rfl rfl
  | empty q r a cap => exact .empty a cap rfl rfl (.inl rfl)
  | done q r s a => exact .empty a 0 rfl rfl (.inr rfl)
  | sl q r s cs x off cap C l h1 h2 h3 h4 h5 h6 h7 h8 => exact .sl x off cap C l rfl h1 h2 h3 h4 h5 h6 h7 h8
  | _ => simp only at ht; omega
theorem FSl.fz {a : AV} {v : Value} (h : FSl z a v) (q s : Nat) (hs : s = 0 ∨ s = a.s) : FZ z ⟨24, a.p, q, a.r, s, a.cs⟩ v := by
  cases h with
  | nil h1 h2 => rw [h1, h2]; exact .nils q _ s
  | empty ad cap h1 h2 h3 =>
    rw [h1, h2]
    rcases h3 with h3 | rfl
    · have : s = 0 := by rcases hs with h | h; exact h; exact h.trans h3
      rw [this]; exact .empty q _ ad cap
    · exact .done q _ s ad
  | sl x off cap C l h1 h2 h3 h4 h5 h6 h7 h8 h9 =>
    rw [h1]
    exact .sl q _ s a.cs x off cap C l h2 h3 h4 h5 (fun e => by rcases hs with rfl | rfl; cases e; exact h6 e) h7 h8 h9
theorem tagIs_ok {k : Nat} {c : AV} (h : tagIs k c = true) : (k < 32 ∧ c.tag = k) ∨ (32 ≤ k ∧ c.tag = 24 ∧ c.r = k - 32) := by
  unfold tagIs at h
  cases h1 : nble 32 k
  · rw [h1, bi_false] at h; exact .inl ⟨ble_false.1 h1, beq_true.1 h⟩
  · rw [h1, bi_true] at h
    cases h2 : nbeq c.tag 24
    · rw [h2] at h; cases h
    · rw [h2, bi_true] at h; exact .inr ⟨ble_true.1 h1, beq_true.1 h2, beq_true.1 h⟩
theorem FZ.can {k : Nat} {c : AV} {v : Value} (h : FZ z c v) (hk : k ≤ 9 ∨ 32 ≤ k) (ht : tagIs k c = true) : FZ z (canC k c) v := by
  rcases tagIs_ok ht with ⟨h32, rfl⟩ | ⟨h32, e24, er⟩
  · unfold canC
    cases h with
    | int c p r s cs h1 h2 =>
      show FZ z (bi (nble c 8) (mk1 c p) _) _
      rw [ble_true.2 (by omega)]; exact .int c p 0 0 [] h1 h2
    | bool b r s cs => exact .bool b 0 0 []
    | str l r s cs => exact .str l 0 0 []
    | _ => simp only at hk h32; omega
  · have := (h.of_sl e24).fz 0 0 (.inl rfl)
    unfold canC
    rw [ble_false.2 (by omega), bi_false, show nbeq k 9 = false from beq_false.2 (by omega), bi_false]
    rw [er] at this
    exact this
theorem nthL_get {l : List AV} {j : Nat} (h : (nthL l j).tag ≠ 18) : l[j]? = some (nthL l j) := by
  rw [nthL_eq] at h ⊢
  cases e : l[j]? with
  | none => rw [e] at h; exact absurd rfl h
  | some a => rfl
/-- cells that have the tags -/
theorem tagsAt_gen {R : AV → Value → Prop} (hR : ∀ (c : AV) (v : Value) (k : Nat), R c v → (k ≤ 9 ∨ 32 ≤ k) → tagIs k c = true → FZ z (canC k c) v) (ks : List Nat) (hks : ∀ k ∈ ks, k ≤ 9 ∨ 32 ≤ k) {cs : List AV} {l : List Value} (h : ∀ (i : Nat) (c : AV), cs[i]? = some c → ∃ v, l[i]? = some v ∧ R c v) : ∀ j, tagsAt ks cs j = true → FZs z (canAt ks cs j) ((l.drop j).take ks.length) ∧ (ks = [] ∨ j + ks.length ≤ l.length) ∧ (canAt ks cs j).length = ks.length ∧ ∀ c ∈ canAt ks cs j, okCell c = true := by
  induction ks with
  | nil => intro j _; exact ⟨by simp [canAt]; exact .nil, .inl rfl, rfl, fun c hc => by cases hc⟩
  | cons k ks ih =>
    intro j ht
    have ht' : bi (tagIs k (nthL cs j)) (tagsAt ks cs (Nat.succ j)) false = true := ht
    cases h1 : tagIs k (nthL cs j)
    · rw [h1] at ht'; cases ht'
    rw [h1, bi_true] at ht'
    have hk := hks k (by simp)
    have hg := nthL_get (l := cs) (j := j) (by rcases tagIs_ok h1 with h | h <;> omega)
    obtain ⟨v, hv, hf⟩ := h _ _ hg
    have hj := (List.getElem?_eq_some_iff.1 hv).1
    obtain ⟨g1, g2, g3, g4⟩ := ih (fun k hk => hks k (by simp [hk])) _ ht'
    have e : (l.drop j).take (ks.length + 1) = v :: (l.drop (j + 1)).take ks.length := by
      rw [List.drop_eq_getElem_cons hj, List.take_succ_cons]
      congr 1
      rw [List.getElem?_eq_getElem hj] at hv; exact Option.some.inj hv
    refine ⟨?_, .inr ?_, ?_, ?_⟩
    · rw [List.length_cons, e]
      exact .cons (hR _ _ _ hf hk h1) g1
    · rcases g2 with rfl | g2
      · simp; omega
      · simp only [List.length_cons]; omega
    · show (canC k (nthL cs j) :: canAt ks cs (Nat.succ j)).length = _
      simp [g3]
    · intro c hc
      cases hc with
      | head =>
        show okCell (canC k (nthL cs j)) = true
        unfold canC
        rcases hk with hk | hk
        · by_cases h8 : k ≤ 8
          · rw [ble_true.2 h8, bi_true]; unfold okCell mk1; rw [ble_true.2 (show k ≤ 14 by omega)]; rfl
          · have : k = 9 := by omega
            subst this; rfl
        · rw [ble_false.2 (by omega), bi_false, show nbeq k 9 = false from beq_false.2 (by omega), bi_false]; rfl
      | tail _ hc => exact g4 c hc
theorem tagsAt_ok (ks : List Nat) (hks : ∀ k ∈ ks, k ≤ 9 ∨ 32 ≤ k) {cs : List AV} {l : List Value} (h : FZs z cs l) (j : Nat) (ht : tagsAt ks cs j = true) : FZs z (canAt ks cs j) ((l.drop j).take ks.length) ∧ (ks = [] ∨ j + ks.length ≤ l.length) ∧ (canAt ks cs j).length = ks.length ∧ ∀ c ∈ canAt ks cs j, okCell c = true :=
  tagsAt_gen (R := FZ z) (fun _ _ _ h1 h2 h3 => h1.can h2 h3) ks hks (fun _ _ hc => h.get hc) j ht
theorem VR.can {k : Nat} {c : AV} {v : Value} (h : VR φ c v) (hk : k ≤ 9 ∨ 32 ≤ k) (ht : tagIs k c = true) : FZ φ.fz (canC k c) v := by
  rcases tagIs_ok ht with ⟨h32, rfl⟩ | ⟨h32, e24, er⟩
  · unfold canC
    cases h with
    | int c p r s cs h1 h2 =>
      show FZ _ (bi (nble c 8) (mk1 c p) _) _
      rw [ble_true.2 (by omega)]; exact .int c p 0 0 [] h1 h2
    | bool b r s cs => exact .bool b 0 0 []
    | str l r s cs => exact .str l 0 0 []
    | _ => simp only at hk h32; omega
  · exact (h.of_frz e24).can hk ht
theorem tagsAt_vr (ks : List Nat) (hks : ∀ k ∈ ks, k ≤ 9 ∨ 32 ≤ k) {cs : List AV} {l : List Value} (h : VRs φ cs l) (j : Nat) (ht : tagsAt ks cs j = true) : FZs φ.fz (canAt ks cs j) ((l.drop j).take ks.length) ∧ (ks = [] ∨ j + ks.length ≤ l.length) ∧ (canAt ks cs j).length = ks.length ∧ ∀ c ∈ canAt ks cs j, okCell c = true :=
  tagsAt_gen (R := VR φ) (fun _ _ _ h1 h2 h3 => h1.can h2 h3) ks hks (fun _ _ hc => h.get hc) j ht
theorem kTag_ok {t : TypeId} {k : Nat} (h : kTag P t = some k) : k ≤ 9 ∨ 32 ≤ k := by
  unfold kTag at h
  split at h <;> first | (cases h; done) | skip
  · rename_i k' _; cases h; left; cases k' <;> simp [kCode]
  · cases h; omega
  · cases h; omega
  · rename_i e _
    cases hs : (szB P e).run with
    | none => rw [hs] at h; cases h
    | some n =>
      rw [hs, om_some] at h
      cases h
      right
      show 32 ≤ 32 + n
      omega
theorem kTags_ok {ts : List TypeId} : ∀ {ks : List Nat}, kTags P ts = some ks → ∀ k ∈ ks, k ≤ 9 ∨ 32 ≤ k := by
  induction ts with
  | nil => intro ks h k hk; cases h; cases hk
  | cons t ts ih =>
    intro ks h k hk
    have h' : om (kTag P t) none (fun k => om (kTags P ts) none fun ks => some (k :: ks)) = some ks := h
    cases h1 : kTag P t with
    | none => rw [h1] at h'; cases h'
    | some k1 =>
      rw [h1, om_some] at h'
      cases h2 : kTags P ts with
      | none => rw [h2] at h'; cases h'
      | some k2 =>
        rw [h2, om_some] at h'
        cases h'
        cases hk with
        | head => exact kTag_ok h1
        | tail _ hk => exact ih h2 k hk
theorem ksB_ok {t : TypeId} {ks : List Nat} (h : (ksB P t).run = some ks) : ∀ k ∈ ks, k ≤ 9 ∨ 32 ≤ k := by
  have h' : om (cellTs P 20 t) none (kTags P) = some ks := h
  cases h1 : cellTs P 20 t with
  | none => rw [h1] at h'; cases h'
  | some ts => rw [h1, om_some] at h'; exact kTags_ok h'
end Go.Eng
