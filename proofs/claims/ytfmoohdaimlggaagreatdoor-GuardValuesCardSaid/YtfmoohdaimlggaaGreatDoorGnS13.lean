
/- A part of the proof that the evaluator in GnC, and the driver in GnZ, answer as the model does; no conditions. -/
import Derived.Test.YtfmoohdaimlggaaGreatDoorGnS12
import Derived.ChangeKeysEq
namespace Go.Eng
open Go.RowKit
variable {P : Program} {w0 : World} {H : Hp} {φ : Ph} {c : Kont} {w : World}

/-! ### maps -/
def KeyS (P : Program) (kt : TypeId) (n : Nat) : Prop := (∃ k, (tyB P kt).run = some (.int k) ∧ n = kCode k) ∨ ((tyB P kt).run = some .string ∧ n = 9)
def KeyArr (P : Program) (kt : TypeId) (n : Nat) : Prop := ∃ m e k, (tyB P kt).run = some (.array m e) ∧ (tyB P e).run = some (.int k) ∧ (szB P e).run = some 1 ∧ n = 32 + 8 * m + kCode k
def KeyT (P : Program) (kt : TypeId) (n : Nat) : Prop := KeyS P kt n ∨ KeyArr P kt n
theorem keyTag_ok {kt : TypeId} {n : Nat} (h : keyTag P kt = some n) : KeyT P kt n := by
  unfold keyTag at h
  split at h
  · rename_i k hk; cases h; exact .inl (.inl ⟨k, hk, rfl⟩)
  · rename_i hk; cases h; exact .inl (.inr ⟨hk, rfl⟩)
  · rename_i m e hk
    split at h
    · rename_i k he hs
      cases h
      refine .inr ⟨m, e, k, hk, he, hs, ?_⟩
      show 32 + (8 * m + kCode k) = _
      omega
    · cases h
  · cases h
theorem KeyS.lt {kt : TypeId} {n : Nat} (h : KeyS P kt n) : n < 32 := by
  rcases h with ⟨k, _, rfl⟩ | ⟨_, rfl⟩
  · have := kCode_lt k; omega
  · omega
theorem keyA_s {n : Nat} {k : AV} (hn : n < 32) : keyA n k = nbeq k.tag n := by
  unfold keyA; rw [ble_false.2 hn]; rfl
theorem sameK_s {n : Nat} {a b : AV} (hn : n < 32) : sameK n a b = bi (nbeq a.p b.p) (nbeq a.q b.q) false := by
  unfold sameK; rw [ble_false.2 hn]; rfl
theorem KeyT.kt {kt : TypeId} {n : Nat} (h : KeyT P kt n) : n < 8 ∨ n = 9 ∨ 32 ≤ n := by
  rcases h with (⟨k, _, rfl⟩ | ⟨_, rfl⟩) | ⟨m, e, k, _, _, _, rfl⟩
  · exact .inl (kCode_lt k)
  · exact .inr (.inl rfl)
  · omega
theorem part_int {e : TypeId} {k : IntKind} {cs : List Value} {i : Nat} {v : Value} (he : (tyB P e).run = some (.int k)) (hv : cs[i]? = some v) : (part e cs.toArray i).run P w = .ok v w :=
  run_part1 he (by simp only [isAggT, he]) hv
theorem checkArr {m n : Nat} {e : TypeId} {k : IntKind} {b : Bool} {cs : List Value} (he : (tyB P e).run = some (.int k)) (hs : (szB P e).run = some 1) (hl : cs.length = m) {kt : TypeId} (ht : (tyB P kt).run = some (.array m e)) :
    (Instr.checkKey b (n + 2) kt (.agg cs.toArray)).run P w = .ok () w := by
  have key : ∀ (is : List Nat), (∀ i ∈ is, i < m) → (forIn is PUnit.unit (fun i _ => do
      let a ← (do let c ← sizeOf e; part e cs.toArray (i * c))
      Instr.checkKey b (n + 1) e a
      pure (ForInStep.yield PUnit.unit)) : Sem PUnit).run P w = .ok PUnit.unit w := by
    intro is
    induction is with
    | nil => intro _; simp
    | cons i is ih =>
      intro hi
      have hlt : i < cs.length := by rw [hl]; exact hi i (by simp)
      have hp := part_int (P := P) (w := w) he (List.getElem?_eq_getElem hlt)
      have hck : (Instr.checkKey b (n + 1) e cs[i]).run P w = .ok () w := by
        simp only [Instr.checkKey, Sem.run_bind, run_und he, Result.andThen_ok]; rfl
      simp only [List.forIn_cons, Sem.run_bind, run_sizeOf hs, Result.andThen_ok, Nat.mul_one, hp, hck, Sem.run_pure']
      exact ih fun j hj => hi j (by simp [hj])
  rw [show n + 2 = (n + 1) + 1 from rfl, Instr.checkKey]
  simp only [Sem.run_bind, run_und ht, Result.andThen_ok]
  simp only [Std.Legacy.Range.forIn_eq_forIn_range', Std.Legacy.Range.size, Nat.sub_zero, Nat.add_one_sub_one, Nat.div_one]
  have := key (List.range' 0 m) (fun i hi => by simp [List.mem_range'] at hi; omega)
  simp at this
  simp
  rw [this]
  rfl
theorem checkKey_s {kt : TypeId} {n m : Nat} {b : Bool} (h : KeyS P kt n) (v : Value) : (Instr.checkKey b (m + 1) kt v).run P w = .ok () w := by
  rcases h with ⟨k, hk, _⟩ | ⟨hk, _⟩ <;> simp only [Instr.checkKey, Sem.run_bind, run_und hk, Result.andThen_ok] <;> rfl
/-- an array of whole numbers -/
theorem arr_of {m c : Nat} {k : AV} {v : Value} (hc : c < 8) (hv : VR φ k v) (hk : keyA (32 + 8 * m + c) k = true) : ∃ l : List Value, v = .agg l.toArray ∧ VRs φ k.cs l ∧ k.cs.length = m ∧ ∀ x ∈ k.cs, x.tag = c := by
  unfold keyA at hk
  rw [ble_true.2 (by omega), bi_true] at hk
  have e1 : Nat.div (Nat.sub (32 + 8 * m + c) 32) 8 = m := by show (32 + 8 * m + c - 32) / 8 = m; omega
  have e2 : Nat.mod (32 + 8 * m + c) 8 = c := by show (32 + 8 * m + c) % 8 = c; omega
  rw [e1, e2] at hk
  cases h15 : nbeq k.tag 15
  · rw [h15] at hk; cases hk
  rw [h15, bi_true] at hk
  cases hl : nbeq (lenL k.cs) m
  · rw [hl] at hk; cases hk
  rw [hl, bi_true, allL_eq, List.all_eq_true] at hk
  obtain ⟨l, rfl, h1, _⟩ := hv.of_agg (beq_true.1 h15)
  have hl := beq_true.1 hl
  rw [lenL_eq] at hl
  exact ⟨l, rfl, h1, hl, fun x hx => beq_true.1 (hk x hx)⟩
theorem checkKey_ok {kt : TypeId} {n m : Nat} {b : Bool} (h : KeyT P kt n) {k : AV} {v : Value} (hv : VR φ k v) (hk : keyA n k = true) : (Instr.checkKey b (m + 2) kt v).run P w = .ok () w := by
  rcases h with h | ⟨q, e, kk, ht, he, hs, rfl⟩
  · exact checkKey_s h v
  · obtain ⟨l, rfl, h1, h2, _⟩ := arr_of (kCode_lt kk) hv hk
    exact checkArr he hs (by rw [← h1.length]; exact h2) ht
theorem same_ok {kt : TypeId} {n : Nat} {d : TypeDesc} (h : KeyS P kt n) (hd : (tyB P kt).run = some d) {a b : AV} {va vb : Value} (ha : VR φ a va) (hb : VR φ b vb) (ta : a.tag = n) (tb : b.tag = n) : Instr.sameNow d va vb = some (sameK n b a) := by
  rw [sameK_s h.lt]
  rcases h with ⟨k, hk, rfl⟩ | ⟨hk, rfl⟩ <;> rw [hk] at hd <;> cases hd
  · obtain ⟨rfl, l1, q1⟩ := ha.of_int (kCode_lt k) ta
    obtain ⟨rfl, l2, q2⟩ := hb.of_int (kCode_lt k) tb
    have e : (valI (kCode k) a.p == valI (kCode k) b.p) = nbeq b.p a.p := by
      rw [Bool.eq_iff_iff, beq_iff_eq, beq_true, eq_val (kCode_lt k) l1 l2]; exact eq_comm
    simp only [Instr.sameNow, if_true, e, q1, q2]
    cases nbeq b.p a.p <;> rfl
  · obtain ⟨p, rfl, e1, q1⟩ := ha.of_str ta
    obtain ⟨q, rfl, e2, q2⟩ := hb.of_str tb
    have : ((⟨p.toArray⟩ : ByteArray) == ⟨q.toArray⟩) = decide (q = p) := by
      show (p.toArray == q.toArray) = _
      rw [Bool.eq_iff_iff, beq_iff_eq, decide_eq_true_eq]; simp [eq_comm]
    simp only [Instr.sameNow, this, ← bytes_eq, e1, e2, q1, q2]
    cases nbeq q.length p.length <;> cases nbeq (bytesN q) (bytesN p) <;> rfl
theorem findE_cons (n : Nat) (k e : AV) (as : List AV) : findE n k (e :: as) = bi (sameK n (nthL e.cs 0) k) (some (nthL e.cs 1)) (findE n k as) := rfl
theorem updE_cons (n : Nat) (k v e : AV) (as : List AV) : updE n k v (e :: as) = bi (sameK n (nthL e.cs 0) k) (entV e.p k v :: as) (e :: updE n k v as) := rfl
theorem delE_cons (n : Nat) (k e : AV) (as : List AV) : delE n k (e :: as) = bi (sameK n (nthL e.cs 0) k) as (e :: delE n k as) := rfl
/-- a finder that goes through the entries one by one -/
def Finds (P : Program) (w : World) (n : Nat) (φ : Ph) (k : AV) (ek : Value) (F : List MapEntry → Nat → Option (Nat × Value) → Prop) : Prop :=
  (∀ i, F [] i none) ∧ ∀ (k' : AV) (ek' ev' : Value) (b : Nat) (es : List MapEntry) (i : Nat), VR φ k' ek' → keyA n k' = true →
    (sameK n k' k = true → F (⟨ek', ev', b⟩ :: es) i (some (i, ev')) ∧ Instr.sameBits 10000 ek' ek = true) ∧ (sameK n k' k = false → ∀ r, F es (i + 1) r → F (⟨ek', ev', b⟩ :: es) i r)
theorem find_gen {n ck : Nat} {k : AV} {ek : Value} {F : List MapEntry → Nat → Option (Nat × Value) → Prop} (hF : Finds P w n φ k ek F) (hk : VR φ k ek) (tk : keyA n k = true) {as : List AV} {es : List MapEntry} (he : Ents φ n ck as es) : ∀ i,
    (findE n k as = none ∧ F es i none) ∨
    ∃ v j ev ee, findE n k as = some v ∧ F es i (some (i + j, ev)) ∧ es[j]? = some ee ∧ ee.val = ev ∧ VR φ v ev ∧ Instr.sameBits 10000 ee.key ek = true ∧
      (∀ x ex, VR φ x ex → Ents φ n ck (updE n k x as) (es.modify j fun e => { e with key := ek, val := ex })) ∧ Ents φ n ck (delE n k as) (es.eraseIdx j) ∧ findN n k as = ee.born := by
  induction he with
  | nil => intro i; exact .inl ⟨rfl, hF.1 i⟩
  | @cons b q r s k' v' ek' ev' as es h1 h2 h3 h4 h5 ih =>
    intro i
    obtain ⟨hs1, hs2⟩ := hF.2 k' ek' ev' b es i h1 h2
    rw [findE_cons]
    have n0 : nthL [k', v'] 0 = k' := rfl
    have n1 : nthL [k', v'] 1 = v' := rfl
    rw [n0, n1]
    cases hb : sameK n k' k
    · rcases ih (i + 1) with ⟨f1, f2⟩ | ⟨v, j, ev, ee, f1, f2, f3, f4, f5, f6, f7, f8, f9⟩
      · exact .inl ⟨f1, hs2 hb _ f2⟩
      · right
        refine ⟨v, j + 1, ev, ee, f1, ?_, by simpa using f3, f4, f5, f6, ?_, ?_, ?_⟩
        · have := hs2 hb _ f2
          rw [show i + (j + 1) = i + 1 + j by omega]; exact this
        · intro x ex hx
          rw [updE_cons, n0, hb]
          exact .cons h1 h2 h3 h4 (f7 x ex hx)
        · rw [delE_cons, n0, hb]
          exact .cons h1 h2 h3 h4 f8
        · show bi (sameK n k' k) b (findN n k as) = _
          rw [hb]; exact f9
    · right
      obtain ⟨g1, g2⟩ := hs1 hb
      refine ⟨v', 0, ev', ⟨ek', ev', b⟩, rfl, g1, rfl, rfl, h3, g2, ?_, ?_, ?_⟩
      · intro x ex hx
        rw [updE_cons, n0, hb]
        exact .cons hk tk hx h4 h5
      · rw [delE_cons, n0, hb]
        exact h5
      · show bi (sameK n k' k) b (findN n k as) = _
        rw [hb]; rfl
theorem sameBits_ok {d : TypeDesc} {a b : Value} (h : Instr.sameNow d a b = some true) : Instr.sameBits 10000 b a = true := by
  cases d <;> cases a <;> cases b <;> simp only [Instr.sameNow, reduceCtorEq, Option.some.injEq] at h
  case int.int.int k x y z u =>
    split at h
    · rename_i hk; subst hk
      have := Option.some.inj h
      rw [beq_iff_eq] at this; subst this
      simp [Instr.sameBits]
    · cases h
  case bool.bool.bool => rw [beq_iff_eq] at h; subst h; simp [Instr.sameBits]
  case string.string.string x y =>
    have : (x.data == y.data) = true := h
    rw [beq_iff_eq] at this
    have e : x = y := ByteArray.ext this
    subst e
    show (x.data == x.data) = true
    simp
theorem finds_s {kt : TypeId} {n : Nat} {d : TypeDesc} (h : KeyS P kt n) (hd : (tyB P kt).run = some d) {k : AV} {ek : Value} (hk : VR φ k ek) (tk : keyA n k = true) : Finds P w n φ k ek fun es i r => Instr.findNow d ek es i = some r := by
  rw [keyA_s h.lt] at tk
  refine ⟨fun _ => rfl, fun k' ek' ev' b es i h1 h2 => ?_⟩
  rw [keyA_s h.lt] at h2
  have hs := same_ok h hd hk h1 (beq_true.1 tk) (beq_true.1 h2)
  refine ⟨fun hb => ?_, fun hb r hr => ?_⟩
  · rw [hb] at hs
    exact ⟨by simp only [Instr.findNow, hs], sameBits_ok hs⟩
  · rw [hb] at hs
    simp only [Instr.findNow, hs]; exact hr
theorem eqItems_ok {d c : Nat} {e : TypeId} {kk : IntKind} (hc : c = kCode kk) (he : (tyB P e).run = some (.int kk)) {X Y : List AV} {xs ys : List Value} (hX : VRs φ X xs) (hY : VRs φ Y ys) (tX : ∀ a ∈ X, a.tag = c) (tY : ∀ a ∈ Y, a.tag = c) (hlen : X.length = Y.length) (m : Nat) : ∀ i, i + m = X.length →
    (Op.eqItems (d + 1) e 1 xs.toArray ys.toArray (List.range' i m)).run P w = .ok (sameL (Y.drop i) (X.drop i)) w := by
  induction m with
  | zero =>
    intro i hi
    rw [List.drop_of_length_le (by omega), List.drop_of_length_le (by omega)]
    rfl
  | succ m ih =>
    intro i hi
    have h1 : i < X.length := by omega
    have h2 : i < Y.length := by omega
    obtain ⟨v, hv, hvr⟩ := hX.get (List.getElem?_eq_getElem h1)
    obtain ⟨u, hu, hur⟩ := hY.get (List.getElem?_eq_getElem h2)
    have hc8 : c < 8 := by rw [hc]; exact kCode_lt kk
    obtain ⟨ev, l1, _⟩ := hvr.of_int hc8 (tX _ (List.getElem_mem h1))
    obtain ⟨eu, l2, _⟩ := hur.of_int hc8 (tY _ (List.getElem_mem h2))
    rw [List.range'_succ]
    have p1 := part_int (P := P) (w := w) he hv
    have p2 := part_int (P := P) (w := w) he hu
    have eq1 : (Op.equalIn (d + 1) e v u).run P w = .ok (nbeq Y[i].p X[i].p) w := by
      have e0 : (valI c X[i].p == valI c Y[i].p) = nbeq Y[i].p X[i].p := by
        rw [Bool.eq_iff_iff, beq_iff_eq, beq_true, eq_val hc8 l1 l2]; exact eq_comm
      rw [ev, eu]
      simp only [Op.equalIn, Sem.run_bind, run_und he, Result.andThen_ok, if_true, Sem.run_pure', e0]
    have hd1 : X.drop i = X[i] :: X.drop (i + 1) := List.drop_eq_getElem_cons h1
    have hd2 : Y.drop i = Y[i] :: Y.drop (i + 1) := List.drop_eq_getElem_cons h2
    rw [hd1, hd2]
    have e3 : sameL (Y[i] :: Y.drop (i + 1)) (X[i] :: X.drop (i + 1)) = bi (nbeq Y[i].p X[i].p) (sameL (Y.drop (i + 1)) (X.drop (i + 1))) false := rfl
    rw [e3]
    simp only [Op.eqItems, Sem.run_bind, Nat.mul_one, p1, p2, Result.andThen_ok, eq1]
    cases hb : nbeq Y[i].p X[i].p
    · simp [bi]
    · simp only [Bool.not_true, Bool.false_eq_true, if_false, bi_true]
      exact ih (i + 1) (by omega)
theorem sameL_eq {c : Nat} (hc : c < 8) : ∀ {X Y : List AV} {xs ys : List Value}, VRs φ X xs → VRs φ Y ys → (∀ a ∈ X, a.tag = c) → (∀ a ∈ Y, a.tag = c) → sameL X Y = true → xs = ys ∧ ∀ n, (xs.zip ys).all (fun (p : Value × Value) => Instr.sameBits n p.1 p.2) = true := by
  intro X
  induction X with
  | nil => intro Y xs ys hX hY _ _ h; cases hX; cases Y with
    | nil => cases hY; exact ⟨rfl, fun _ => rfl⟩
    | cons _ _ => cases h
  | cons a X ih => intro Y xs ys hX hY tX tY h; cases Y with
    | nil => cases h
    | cons b Y => cases hX with
      | cons h1 h2 => cases hY with
        | cons h3 h4 =>
          have h' : bi (nbeq a.p b.p) (sameL X Y) false = true := h
          cases hb : nbeq a.p b.p
          · rw [hb] at h'; cases h'
          · rw [hb, bi_true] at h'
            obtain ⟨e1, e2⟩ := ih h2 h4 (fun x hx => tX x (by simp [hx])) (fun x hx => tY x (by simp [hx])) h'
            obtain ⟨e3, _, _⟩ := h1.of_int hc (tX a (by simp))
            obtain ⟨e4, _, _⟩ := h3.of_int hc (tY b (by simp))
            rw [beq_true.1 hb] at e3
            refine ⟨by rw [e1, e3, e4], fun n => ?_⟩
            rw [List.zip_cons_cons, List.all_cons, e2 n, e3, e4]
            cases n <;> simp [Instr.sameBits]
theorem finds_a {kt e : TypeId} {m : Nat} {kk : IntKind} (ht : (tyB P kt).run = some (.array m e)) (he : (tyB P e).run = some (.int kk)) (hs : (szB P e).run = some 1) {k : AV} {ek : Value} (hk : VR φ k ek) (tk : keyA (32 + 8 * m + kCode kk) k = true) :
    Finds P w (32 + 8 * m + kCode kk) φ k ek fun es i r => (Instr.findAsking kt ek es i).run P w = .ok r w := by
  obtain ⟨xs, rfl, hX, lX, tX⟩ := arr_of (kCode_lt kk) hk tk
  refine ⟨fun _ => rfl, fun k' ek' ev' b es i h1 h2 => ?_⟩
  obtain ⟨ys, rfl, hY, lY, tY⟩ := arr_of (kCode_lt kk) h1 h2
  obtain ⟨ie, hie, hsz⟩ := Option.map_eq_some_iff.1 (show (P.info? e).map (·.size) = some 1 from hs)
  have hcells : P.cellsOf e = 1 := by simp [Program.cellsOf, hie, hsz]
  have hsame : sameK (32 + 8 * m + kCode kk) k' k = sameL k'.cs k.cs := by
    unfold sameK; rw [ble_true.2 (by omega)]; rfl
  have heq : (Op.equal kt (.agg xs.toArray) (.agg ys.toArray)).run P w = .ok (sameL k'.cs k.cs) w := by
    unfold Op.equal Op.maxDepth
    rw [show (10000 : Nat) = 9999 + 1 from rfl, run_equalIn_array (w := w) 9999 xs.toArray ys.toArray ht hie, hcells, List.range_eq_range']
    have := eqItems_ok (P := P) (w := w) (d := 9998) rfl he hX hY tX tY (by rw [lX, lY]) m 0 (by omega)
    simpa using this
  rw [hsame]
  refine ⟨fun hb => ?_, fun hb r hr => ?_⟩
  · rw [hb] at heq
    refine ⟨by simp only [Instr.findAsking, Sem.run_bind, heq, Result.andThen_ok, if_true, Sem.run_pure'], ?_⟩
    obtain ⟨e1, e2⟩ := sameL_eq (kCode_lt kk) hY hX tY tX hb
    rw [show (10000 : Nat) = 9999 + 1 from rfl]
    simp only [Instr.sameBits]
    rw [Bool.and_eq_true]
    refine ⟨by simp [e1], ?_⟩
    exact e2 9999
  · rw [hb] at heq
    simp only [Instr.findAsking, Sem.run_bind, heq, Result.andThen_ok, Bool.false_eq_true, if_false]
    exact hr
theorem run_findKey {kt : TypeId} {d : TypeDesc} (hd : (tyB P kt).run = some d) {k : Value} {es : List MapEntry} {r : Option (Nat × Value)} (h : Instr.findNow d k es 0 = some r) : (Instr.findKey kt k es).run P w = .ok r w := by
  simp only [Instr.findKey, Sem.run_bind, run_und hd, Result.andThen_ok, h]; rfl
theorem KeyT.desc {kt : TypeId} {n : Nat} (h : KeyT P kt n) : ∃ d, (tyB P kt).run = some d := by
  rcases h with (⟨k, hk, _⟩ | ⟨hk, _⟩) | ⟨_, _, _, hk, _⟩ <;> exact ⟨_, hk⟩
theorem find_ok {kt : TypeId} {n ck : Nat} (h : KeyT P kt n) {k : AV} {ek : Value} (hk : VR φ k ek) (tk : keyA n k = true) {as : List AV} {es : List MapEntry} (he : Ents φ n ck as es) :
    (findE n k as = none ∧ (Instr.findKey kt ek es).run P w = .ok none w) ∨
    ∃ v j ev ee, findE n k as = some v ∧ (Instr.findKey kt ek es).run P w = .ok (some (j, ev)) w ∧ es[j]? = some ee ∧ ee.val = ev ∧ VR φ v ev ∧ Instr.sameBits 10000 ee.key ek = true ∧
      (∀ x ex, VR φ x ex → Ents φ n ck (updE n k x as) (es.modify j fun e => { e with key := ek, val := ex })) ∧ Ents φ n ck (delE n k as) (es.eraseIdx j) ∧ findN n k as = ee.born := by
  obtain ⟨d, hd⟩ := h.desc
  rcases h with h | ⟨m, e, kk, ht, het, hs, rfl⟩
  · rcases find_gen (finds_s (w := w) h hd hk tk) hk tk he 0 with ⟨f1, f2⟩ | ⟨v, j, ev, ee, f1, f2, f3⟩
    · exact .inl ⟨f1, run_findKey hd f2⟩
    · rw [Nat.zero_add] at f2
      exact .inr ⟨v, j, ev, ee, f1, run_findKey hd f2, f3⟩
  · have hask : ∀ r, (Instr.findAsking kt ek es 0).run P w = .ok r w → (Instr.findKey kt ek es).run P w = .ok r w := by
      intro r hr
      rw [ht] at hd; cases hd
      cases es with
      | nil =>
        simp only [Instr.findAsking, Sem.run_pure'] at hr
        cases hr
        exact run_findKey ht rfl
      | cons x es =>
        have hn : Instr.findNow (.array m e) ek (x :: es) 0 = none := by
          have : Instr.sameNow (.array m e) ek x.key = none := rfl
          simp only [Instr.findNow, this]
        simp only [Instr.findKey, Sem.run_bind, run_und ht, Result.andThen_ok, hn]
        exact hr
    rcases find_gen (finds_a (w := w) ht het hs hk tk) hk tk he 0 with ⟨f1, f2⟩ | ⟨v, j, ev, ee, f1, f2, f3⟩
    · exact .inl ⟨f1, hask _ f2⟩
    · rw [Nat.zero_add] at f2
      exact .inr ⟨v, j, ev, ee, f1, hask _ f2, f3⟩
theorem run_getMap {x : Nat} {es : List MapEntry} {ck : Nat} (h : w.heap[x]? = some (.map es.toArray ck)) : (getObj x).run P w = .ok (.map es.toArray ck) w := by
  simp only [getObj, Sem.run, h]
theorem vr_tup2 {a b : AV} {va vb : Value} (ha : VR φ a va) (hb : VR φ b vb) : VR φ (tupV [a, b]) (.tuple #[va, vb]) := .tup 0 0 0 0 [a, b] [va, vb] (.cons ha (.cons hb .nil))
theorem look_out {t kt e : TypeId} {n : Nat} {z : AV} {ok : Bool} {m k : AV} {vm vk : Value} (ht : (tyB P t).run = some (.map kt e)) (hk : KeyT P kt n) (hz : (zeB P e).run = some z) (hm : VR φ m vm) (hvk : VR φ k vk) (hr : HR P w0 H φ w)
    (hok : AllOk ((lookC n z ok).run m k H c)) : Out P w0 (fun v w' => (Instr.lookup t vm vk ok).run P w = .ok v w') H φ ((lookC n z ok).run m k H c) c := by
  obtain ⟨i, zv, hi, hzv, hzr, _⟩ := ze_ok hz
  obtain ⟨d, hd⟩ := hk.desc
  have fin : ∀ (o : Option AV) (r : Option (Nat × Value)), ((o = none ∧ r = none) ∨ ∃ v j ev, o = some v ∧ r = some (j, ev) ∧ VR φ v ev) →
      (∀ (val : Value) (b : Bool), ((r = none ∧ val = zv ∧ b = false) ∨ ∃ j, r = some (j, val) ∧ b = true) →
        (Instr.lookup t vm vk ok).run P w = .ok (if ok then .tuple #[val, .bool b] else val) w) →
      Out P w0 (fun v w' => (Instr.lookup t vm vk ok).run P w = .ok v w') H φ (c H (lookV ok o z)) c := by
    intro o r ho hrun
    rcases ho with ⟨rfl, rfl⟩ | ⟨v, j, ev, rfl, rfl, hv⟩
    · have := hrun zv false (.inl ⟨rfl, rfl, rfl⟩)
      cases ok
      · exact Out.same hr (hzr φ) this
      · exact Out.same hr (vr_tup2 (hzr φ) (vr_bool false)) this
    · have := hrun ev true (.inr ⟨j, rfl, rfl⟩)
      cases ok
      · exact Out.same hr hv this
      · exact Out.same hr (vr_tup2 hv (vr_bool true)) this
  have hck := fun (b : Bool) (h : keyA n k = true) => checkKey_ok (P := P) (w := w) (m := 9998) (b := b) hk hvk h
  refine Out.bi2 hok (fun g0 hok => Out.bi hok fun g1 hok => Out.bi hok fun g2 hok => Out.bi hok fun g3 _ => ?_) fun _ hok => Out.bi hok fun g0 hok => Out.bi hok fun g3 _ => ?_
  · obtain ⟨x, rfl, hx⟩ := hm.of_map (beq_true.1 g0)
    obtain ⟨_, _, o, ho, hB⟩ := hr.blk _ _ hx
    obtain ⟨es, rfl, hes, _⟩ := hB.map (beq_true.1 g1)
    rw [beq_true.1 g2] at hes
    have hrun : ∀ (r : Option (Nat × Value)), (Instr.findKey kt vk es).run P w = .ok r w → ∀ (val : Value) (b : Bool), ((r = none ∧ val = zv ∧ b = false) ∨ ∃ j, r = some (j, val) ∧ b = true) →
        (Instr.lookup t (.map (some x)) vk ok).run P w = .ok (if ok then .tuple #[val, .bool b] else val) w := by
      intro r hf val b hmid
      unfold Instr.lookup
      simp only [Sem.run_bind, run_und ht, Result.andThen_ok, run_getMap ho, Sem.run_pure']
      rw [show (10000 : Nat) = 9998 + 2 from rfl, hck _ g3]
      simp only [Result.andThen_ok, hf]
      rcases hmid with ⟨rfl, rfl, rfl⟩ | ⟨j, rfl, rfl⟩
      · simp only [Sem.run_bind, run_zero hi hzv, Result.andThen_ok, Sem.run_pure']
      · simp only [Sem.run_bind, Result.andThen_ok, Sem.run_pure']
    rcases find_ok (w := w) hk hvk g3 hes with ⟨f1, f2⟩ | ⟨v, j, ev, ee, f1, f2, _, _, f5, _⟩
    · exact fin _ none (.inl ⟨f1, rfl⟩) (hrun _ f2)
    · exact fin _ _ (.inr ⟨v, _, ev, f1, rfl, f5⟩) (hrun _ f2)
  · have := hm.isNil g0; simp only at this; subst this
    refine fin none none (.inl ⟨rfl, rfl⟩) fun val b hmid => ?_
    have hf := run_findKey (P := P) (w := w) hd (k := vk) (es := []) (r := none) rfl
    unfold Instr.lookup
    simp only [Sem.run_bind, run_und ht, Result.andThen_ok, Sem.run_pure']
    rw [show (10000 : Nat) = 9998 + 2 from rfl, hck _ g3]
    simp only [Result.andThen_ok, hf]
    rcases hmid with ⟨_, rfl, rfl⟩ | ⟨j, h, _⟩
    · simp only [Sem.run_bind, run_zero hi hzv, Result.andThen_ok, Sem.run_pure']
    · cases h
theorem Ents.snoc {n ck b : Nat} {as : List AV} {es : List MapEntry} (he : Ents φ n ck as es) {k v : AV} {ek ev : Value} (hk : VR φ k ek) (tk : keyA n k = true) (hv : VR φ v ev) (hb : ck ≤ b) : Ents φ n (b + 1) (as ++ [entV b k v]) (es ++ [⟨ek, ev, b⟩]) := by
  induction he with
  | nil => exact .cons hk tk hv (by omega) .nil
  | cons h1 h2 h3 h4 _ ih => exact .cons h1 h2 h3 (by omega) ih
theorem set_heap {x : Nat} {o : Obj} (o' : Obj) (h : w.heap[x]? = some o) : ({ w with heap := w.heap.setIfInBounds x o' } : World).heap[x]? = some o' ∧ (∀ k, k ≠ x → ({ w with heap := w.heap.setIfInBounds x o' } : World).heap[k]? = w.heap[k]?) ∧ ({ w with heap := w.heap.setIfInBounds x o' } : World).heap.size = w.heap.size := by
  have hlt := (Array.getElem?_eq_some_iff.1 h).1
  refine ⟨by simp [hlt], fun k hk => ?_, by simp⟩
  simp [Array.getElem?_setIfInBounds, Ne.symm hk]
theorem run_setObj {x : Nat} {o : Obj} (o' : Obj) (h : w.heap[x]? = some o) (hc : ∀ a b f, o ≠ .cells a b f) : (setObj x o').run P w = .ok () { w with heap := w.heap.setIfInBounds x o' } := by
  cases o <;> first | exact absurd rfl (hc _ _ _) | simp [setObj, Sem.run, h]
theorem mapUpd_out {t kt e : TypeId} {n : Nat} {m k x : AV} {vm vk vx : Value} (ht : (tyB P t).run = some (.map kt e)) (hk : KeyT P kt n) (hm : VR φ m vm) (hvk : VR φ k vk) (hx : VR φ x vx) (hr : HR P w0 H φ w)
    (hok : AllOk ((mapUpdC n).run m k x H c)) : Out P w0 (fun v w' => (Instr.mapUpdate t vm vk vx).run P w = .ok () w' ∧ v = undef) H φ ((mapUpdC n).run m k x H c) c := by
  obtain ⟨d, hd⟩ := hk.desc
  refine Out.bi hok fun g0 hok => Out.bi hok fun g1 hok => Out.bi hok fun g2 hok => Out.bi hok fun g3 hok => ?_
  obtain ⟨y, rfl, hy⟩ := hm.of_map (beq_true.1 g0)
  obtain ⟨_, _, o, ho, hB⟩ := hr.blk _ _ hy
  obtain ⟨es, rfl, hes, hkt⟩ := hB.map (beq_true.1 g1)
  have g2' := beq_true.1 g2
  rw [g2'] at hes hkt
  have hck := checkKey_ok (P := P) (w := w) (m := 9998) (b := false) hk hvk g3
  have hk2 : (hget H m.p).kind ≠ 0 := by rw [beq_true.1 g1]; decide
  have hk5 : (hget H m.p).kind ≠ 5 := by rw [beq_true.1 g1]; decide
  have hk7 : (hget H m.p).kind ≠ 7 := by rw [beq_true.1 g1]; decide
  have base : ∀ (rest : Sem Unit) (r : Option (Nat × Value)), (Instr.findKey kt vk es).run P w = .ok r w →
      (match r with | some (i, _) => (do let key ← Instr.keyThatStays (((es.toArray[i]?).map (·.key)).getD vk) vk; setObj y (.map (es.toArray.modify i fun e => { e with key, val := vx }) (hget H m.p).e) : Sem Unit) | none => setObj y (.map (es.toArray.push { key := vk, val := vx, born := (hget H m.p).e }) ((hget H m.p).e + 1))) = rest →
      (Instr.mapUpdate t (.map (some y)) vk vx).run P w = rest.run P w := by
    intro rest r hf hrest
    unfold Instr.mapUpdate
    simp only [Sem.run_bind, run_und ht, Result.andThen_ok, run_getMap ho]
    rw [show (10000 : Nat) = 9998 + 2 from rfl, hck]
    simp only [Result.andThen_ok, hf]
    rw [← hrest]
    cases r <;> rfl
  rcases find_ok (w := w) hk hvk g3 hes with ⟨f1, f2⟩ | ⟨v, j, ev, ee, f1, f2, f3, f4, f5, f6, f7, _⟩
  · have hset : mapSet (hget H m.p) k x = ⟨2, (hget H m.p).t, Nat.succ (hget H m.p).e, appL (hget H m.p).cs [entV (hget H m.p).e k x]⟩ := by unfold mapSet; rw [g2', f1]; rfl
    rw [hset] at hok ⊢
    obtain ⟨s1, s2, s3⟩ := set_heap (w := w) (.map (es ++ [(⟨vk, vx, (hget H m.p).e⟩ : MapEntry)]).toArray ((hget H m.p).e + 1)) ho
    refine Out.set (x := y) (w' := { w with heap := w.heap.setIfInBounds y (.map (es ++ [(⟨vk, vx, (hget H m.p).e⟩ : MapEntry)]).toArray ((hget H m.p).e + 1)) }) hr hy hk2 ?_ (.ud _ _ _ _ _) ⟨?_, rfl⟩ s1 s2 s3 rfl rfl rfl hok (fun h => absurd h hk5)
    · refine ⟨(fun h => by cases h), fun _ => ⟨_, rfl, ?_, by rw [g2']; exact hkt⟩, (fun h => by cases h), (fun h => by exact no42 h)⟩
      show Ents φ (hget H m.p).t (Nat.succ (hget H m.p).e) (appL _ _) _
      rw [appL_eq, g2']
      exact hes.snoc hvk g3 hx (Nat.le_refl _)
    · rw [base _ none f2 rfl, run_setObj _ ho (fun _ _ _ h => by cases h)]
      simp
  · have hset : mapSet (hget H m.p) k x = ⟨2, (hget H m.p).t, (hget H m.p).e, updE n k x (hget H m.p).cs⟩ := by unfold mapSet; rw [g2', f1]; rfl
    rw [hset] at hok ⊢
    obtain ⟨s1, s2, s3⟩ := set_heap (w := w) (.map (es.modify j fun e => { e with key := vk, val := vx }).toArray (hget H m.p).e) ho
    refine Out.set (x := y) (w' := { w with heap := w.heap.setIfInBounds y (.map (es.modify j fun e => { e with key := vk, val := vx }).toArray (hget H m.p).e) }) hr hy hk2 ?_ (.ud _ _ _ _ _) ⟨?_, rfl⟩ s1 s2 s3 rfl rfl rfl hok (fun h => absurd h hk5)
    · refine ⟨(fun h => by cases h), fun _ => ⟨_, rfl, ?_, by rw [g2']; exact hkt⟩, (fun h => by cases h), (fun h => by exact no42 h)⟩
      show Ents φ (hget H m.p).t (hget H m.p).e (updE n k x _) _
      rw [g2']
      exact f7 x vx hx
    · rw [base _ _ f2 rfl]
      have hkey : (Instr.keyThatStays (((es.toArray[j]?).map (·.key)).getD vk) vk).run P w = .ok vk w := by
        have : ((es.toArray[j]?).map (·.key)).getD vk = ee.key := by simp [f3]
        rw [this]
        unfold Instr.keyThatStays
        rw [if_pos f6]; rfl
      simp only [Sem.run_bind, hkey, Result.andThen_ok]
      rw [run_setObj _ ho (fun _ _ _ h => by cases h)]
      simp
theorem del_out {t kt e : TypeId} {n : Nat} {ty : TypeId} {tys : Array TypeId} {m k : AV} {vm vk : Value} (ht0 : tys[0]? = some t) (ht : (tyB P t).run = some (.map kt e)) (hk : KeyT P kt n) (hm : VR φ m vm) (hvk : VR φ k vk) (hr : HR P w0 H φ w)
    (hok : AllOk ((delC n).run m k H c)) : Out P w0 (fun v w' => (Builtin.delete_ tys ty #[vm, vk]).run P w = .ok v w') H φ ((delC n).run m k H c) c := by
  obtain ⟨d, hd⟩ := hk.desc
  refine Out.bi hok fun g0 hok => Out.bi hok fun g1 hok => Out.bi hok fun g2 hok => Out.bi hok fun g3 hok => ?_
  obtain ⟨y, rfl, hy⟩ := hm.of_map (beq_true.1 g0)
  obtain ⟨_, _, o, ho, hB⟩ := hr.blk _ _ hy
  obtain ⟨es, rfl, hes, hkt⟩ := hB.map (beq_true.1 g1)
  have g2' := beq_true.1 g2
  rw [g2'] at hes hkt
  have hck := checkKey_ok (P := P) (w := w) (m := 9998) (b := es.toArray.isEmpty) hk hvk g3
  have hk2 : (hget H m.p).kind ≠ 0 := by rw [beq_true.1 g1]; decide
  have hk5 : (hget H m.p).kind ≠ 5 := by rw [beq_true.1 g1]; decide
  have hk7 : (hget H m.p).kind ≠ 7 := by rw [beq_true.1 g1]; decide
  have h1 : (#[Value.map (some y), vk] : Array Value)[0]? = some (.map (some y)) := rfl
  have h2 : (#[Value.map (some y), vk] : Array Value)[1]? = some vk := rfl
  have base : ∀ (r : Option (Nat × Value)), (Instr.findKey kt vk es).run P w = .ok r w →
      (Builtin.delete_ tys ty #[.map (some y), vk]).run P w = ((match r with | some (i, _) => setObj y (.map (es.toArray.eraseIdxIfInBounds i) (hget H m.p).e) | none => setObj y (.map es.toArray (hget H m.p).e) : Sem Unit).run P w).andThen fun _ w' => .ok (.tuple #[]) w' := by
    intro r hf
    unfold Builtin.delete_
    simp only [ht0, h1, h2, Sem.run_bind, run_und ht, Result.andThen_ok, run_getMap ho]
    rw [show (10000 : Nat) = 9998 + 2 from rfl, hck]
    simp only [Result.andThen_ok, hf]
    cases r <;> simp only [Sem.run_bind, Sem.run_pure']
  have hv0 : VR φ (tupV []) (.tuple #[]) := .tup 0 0 0 0 [] [] .nil
  rcases find_ok (w := w) hk hvk g3 hes with ⟨f1, f2⟩ | ⟨v, j, ev, ee, f1, f2, f3, f4, f5, f6, _, f8, _⟩
  · have hdel : delE n k (hget H m.p).cs = (hget H m.p).cs := by
      clear hok f2 hes
      revert f1
      generalize (hget H m.p).cs = as
      induction as with
      | nil => intro _; rfl
      | cons a as ih =>
        intro f1
        rw [findE_cons] at f1
        rw [delE_cons]
        cases hs : sameK n (nthL a.cs 0) k
        · rw [hs, bi_false] at f1
          rw [bi_false, ih f1]
        · rw [hs] at f1; cases f1
    obtain ⟨s1, s2, s3⟩ := set_heap (w := w) (.map es.toArray (hget H m.p).e) ho
    refine Out.set (x := y) (w' := { w with heap := w.heap.setIfInBounds y (.map es.toArray (hget H m.p).e) }) hr hy hk2 ?_ hv0 ?_ s1 s2 s3 rfl rfl rfl hok (fun h => absurd h hk5)
    · refine ⟨(fun h => by cases h), fun _ => ⟨es, rfl, ?_, by rw [g2']; exact hkt⟩, (fun h => by cases h), (fun h => by exact no42 h)⟩
      show Ents φ (hget H m.p).t (hget H m.p).e (delE n k _) _
      rw [g2', hdel]; exact hes
    · rw [base none f2, run_setObj _ ho (fun _ _ _ h => by cases h)]; rfl
  · obtain ⟨s1, s2, s3⟩ := set_heap (w := w) (.map (es.eraseIdx j).toArray (hget H m.p).e) ho
    refine Out.set (x := y) (w' := { w with heap := w.heap.setIfInBounds y (.map (es.eraseIdx j).toArray (hget H m.p).e) }) hr hy hk2 ?_ hv0 ?_ s1 s2 s3 rfl rfl rfl hok (fun h => absurd h hk5)
    · refine ⟨(fun h => by cases h), fun _ => ⟨_, rfl, ?_, by rw [g2']; exact hkt⟩, (fun h => by cases h), (fun h => by exact no42 h)⟩
      show Ents φ (hget H m.p).t (hget H m.p).e (delE n k _) _
      rw [g2']; exact f8
    · rw [base _ f2]
      simp only []
      rw [run_setObj _ ho (fun _ _ _ h => by cases h)]
      have : es.toArray.eraseIdxIfInBounds j = (es.eraseIdx j).toArray := by simp
      rw [this]; rfl
theorem vr_nat {n : Nat} (h : n ≤ 1000000) : VR φ (mk1 3 n) (goInt n) := by
  have hv := vr_int (φ := φ) (k := 3) (p := n) (by omega) (by rw [kMod_3]; omega)
  rw [valI_lt (by rw [kHalf_3]; omega)] at hv
  exact hv
theorem Ents.born_lt {kt ck : Nat} {as : List AV} {es : List MapEntry} (he : Ents φ kt ck as es) : ∀ e ∈ es, e.born < ck := by
  induction he with
  | nil => intro e h; cases h
  | cons _ _ _ h4 _ ih =>
    intro e h
    cases h with
    | head => exact h4
    | tail _ h => exact ih e h
theorem mapEnt_out {t kt e : TypeId} {n : Nat} {z : AV} {m k : AV} {vm vk : Value} (ht : (tyB P t).run = some (.map kt e)) (hk : KeyT P kt n) (hz : (zeB P e).run = some z) (hm : VR φ m vm) (hvk : VR φ k vk) (hr : HR P w0 H φ w)
    (hok : AllOk ((mapEntC n z).run m k H c)) : Out P w0 (fun v w' => (Instr.mapEntry t vm vk).run P w = .ok v w') H φ ((mapEntC n z).run m k H c) c := by
  obtain ⟨i, zv, hi, hzv, hzr, _⟩ := ze_ok hz
  obtain ⟨d, hd⟩ := hk.desc
  refine Out.bi hok fun g0 hok => Out.bi hok fun g1 hok => Out.bi hok fun g2 hok => Out.bi hok fun g3 hok => Out.bi hok fun g4 hok => ?_
  have g4 := ble_true.1 g4
  obtain ⟨y, rfl, hy⟩ := hm.of_map (beq_true.1 g0)
  obtain ⟨_, _, o, ho, hB⟩ := hr.blk _ _ hy
  obtain ⟨es, rfl, hes, hkt⟩ := hB.map (beq_true.1 g1)
  have g2' := beq_true.1 g2
  rw [g2'] at hes hkt
  have hck := checkKey_ok (P := P) (w := w) (m := 9998) (b := false) hk hvk g3
  have hk2 : (hget H m.p).kind ≠ 0 := by rw [beq_true.1 g1]; decide
  have hk5 : (hget H m.p).kind ≠ 5 := by rw [beq_true.1 g1]; decide
  have hk7 : (hget H m.p).kind ≠ 7 := by rw [beq_true.1 g1]; decide
  have base : ∀ (r : Option (Nat × Value)), (Instr.findKey kt vk es).run P w = .ok r w →
      (Instr.mapEntry t (.map (some y)) vk).run P w = (match r with
        | some (i, v) => (do let key ← Instr.keyThatStays (((es.toArray[i]?).map fun (e : MapEntry) => e.key).getD vk) vk; setObj y (.map (es.toArray.modify i fun e => { e with key }) (hget H m.p).e); pure (.tuple #[v, goInt (((es.toArray[i]?).map fun (e : MapEntry) => (e.born : Int)).getD 0)]) : Sem Value)
        | none => (do let zero ← zeroValue e; setObj y (.map (es.toArray.push { key := vk, val := zero, born := (hget H m.p).e }) ((hget H m.p).e + 1)); pure (.tuple #[zero, goInt (hget H m.p).e]) : Sem Value)).run P w := by
    intro r hf
    unfold Instr.mapEntry
    simp only [Sem.run_bind, run_und ht, Result.andThen_ok, run_getMap ho]
    rw [show (10000 : Nat) = 9998 + 2 from rfl, hck]
    simp only [Result.andThen_ok, hf]
    cases r <;> rfl
  rcases find_ok (w := w) hk hvk g3 hes with ⟨f1, f2⟩ | ⟨v, j, ev, ee, f1, f2, f3, f4, f5, f6, f7, _, f9⟩
  · have hset : mapSet (hget H m.p) k z = ⟨2, (hget H m.p).t, Nat.succ (hget H m.p).e, appL (hget H m.p).cs [entV (hget H m.p).e k z]⟩ := by unfold mapSet; rw [g2', f1]; rfl
    rw [f1, om_none, hset] at hok ⊢
    obtain ⟨s1, s2, s3⟩ := set_heap (w := w) (.map (es ++ [(⟨vk, zv, (hget H m.p).e⟩ : MapEntry)]).toArray ((hget H m.p).e + 1)) ho
    refine Out.set (x := y) (val := .tuple #[zv, goInt (hget H m.p).e]) (w' := { w with heap := w.heap.setIfInBounds y (.map (es ++ [(⟨vk, zv, (hget H m.p).e⟩ : MapEntry)]).toArray ((hget H m.p).e + 1)) }) hr hy hk2 ?_ (vr_tup2 (hzr φ) (vr_nat g4)) ?_ s1 s2 s3 rfl rfl rfl hok (fun h => absurd h hk5)
    · refine ⟨(fun h => by cases h), fun _ => ⟨_, rfl, ?_, by rw [g2']; exact hkt⟩, (fun h => by cases h), (fun h => by exact no42 h)⟩
      show Ents φ (hget H m.p).t (Nat.succ (hget H m.p).e) (appL _ _) _
      rw [appL_eq, g2']
      exact hes.snoc hvk g3 (hzr φ) (Nat.le_refl _)
    · rw [base none f2]
      simp only [Sem.run_bind, run_zero hi hzv, Result.andThen_ok]
      rw [run_setObj _ ho (fun _ _ _ h => by cases h)]
      simp [Sem.run_pure']
  · have hset : mapSet (hget H m.p) k v = ⟨2, (hget H m.p).t, (hget H m.p).e, updE n k v (hget H m.p).cs⟩ := by unfold mapSet; rw [g2', f1]; rfl
    rw [f1, om_some, hset, f9] at hok ⊢
    have hmod : (es.modify j fun e => { e with key := vk, val := ev }) = es.modify j fun e => { e with key := vk } := by
      apply List.ext_getElem?
      intro q
      rw [List.getElem?_modify, List.getElem?_modify]
      by_cases hq : j = q
      · subst hq
        rw [f3]; simp [← f4]
      · simp [hq]
    have f7' := f7 v ev f5
    rw [hmod] at f7'
    obtain ⟨s1, s2, s3⟩ := set_heap (w := w) (.map (es.modify j fun e => { e with key := vk }).toArray (hget H m.p).e) ho
    have hborn := hes.born_lt ee (List.mem_of_getElem? f3)
    refine Out.set (x := y) (val := .tuple #[ev, goInt ee.born]) (w' := { w with heap := w.heap.setIfInBounds y (.map (es.modify j fun e => { e with key := vk }).toArray (hget H m.p).e) }) hr hy hk2 ?_ (vr_tup2 f5 (vr_nat (by omega))) ?_ s1 s2 s3 rfl rfl rfl hok (fun h => absurd h hk5)
    · refine ⟨(fun h => by cases h), fun _ => ⟨_, rfl, ?_, by rw [g2']; exact hkt⟩, (fun h => by cases h), (fun h => by exact no42 h)⟩
      show Ents φ (hget H m.p).t (hget H m.p).e (updE n k v _) _
      rw [g2']
      exact f7'
    · rw [base _ f2]
      have hkey : (Instr.keyThatStays (((es.toArray[j]?).map (·.key)).getD vk) vk).run P w = .ok vk w := by
        have : ((es.toArray[j]?).map (·.key)).getD vk = ee.key := by simp [f3]
        rw [this]
        unfold Instr.keyThatStays
        rw [if_pos f6]; rfl
      have hb : ((es.toArray[j]?).map fun (e : MapEntry) => (e.born : Int)).getD 0 = (ee.born : Int) := by simp [f3]
      simp only [Sem.run_bind, hkey, Result.andThen_ok, hb]
      rw [run_setObj _ ho (fun _ _ _ h => by cases h)]
      simp [Sem.run_pure']
theorem setN_ok {n kt ck : Nat} {v : AV} {ev : Value} {as : List AV} {es : List MapEntry} (he : Ents φ kt ck as es) (hv : VR φ v ev) : ∀ {as' : List AV}, setN n v as = some as' →
    ∃ i, es.findIdx? (fun e => (e.born : Int) == (n : Int)) = some i ∧ Ents φ kt ck as' (es.modify i fun e => { e with val := ev }) := by
  induction he with
  | nil => intro as' h; cases h
  | @cons b q r s k' v' ek' ev' as es h1 h2 h3 h4 h5 ih =>
    intro as' h
    have h' : bi (nbeq b n) (some (entV b k' v :: as)) (om (setN n v as) none fun l => some (⟨16, b, q, r, s, [k', v']⟩ :: l)) = some as' := h
    cases hb : nbeq b n
    · rw [hb, bi_false] at h'
      cases hs : setN n v as with
      | none => rw [hs] at h'; cases h'
      | some l =>
        rw [hs, om_some] at h'
        cases h'
        obtain ⟨i, e1, e2⟩ := ih hs
        have hne := beq_false.1 hb
        refine ⟨i + 1, ?_, .cons h1 h2 h3 h4 e2⟩
        rw [List.findIdx?_cons]
        have : (((b : Nat) : Int) == (n : Int)) = false := by simp; omega
        simp [this, e1]
    · rw [hb, bi_true] at h'
      cases h'
      have hbn := beq_true.1 hb
      refine ⟨0, ?_, .cons h1 h2 hv h4 h5⟩
      rw [List.findIdx?_cons]
      simp [hbn]
theorem entSt_out {t : TypeId} {m s x : AV} {vm vs vx : Value} (hm : VR φ m vm) (hs : VR φ s vs) (hx : VR φ x vx) (hr : HR P w0 H φ w)
    (hok : AllOk (entStC.run m s x H c)) : Out P w0 (fun v w' => (Instr.entryStore t vm vs vx).run P w = .ok () w' ∧ v = undef) H φ (entStC.run m s x H c) c := by
  refine Out.bi hok fun g0 hok => Out.bi hok fun g1 hok => Out.bi hok fun g2 hok => Out.bi hok fun g3 hok => Out.om hok fun es' he hok => ?_
  have g3 := ble_true.1 g3
  obtain ⟨y, rfl, hy⟩ := hm.of_map (beq_true.1 g0)
  obtain ⟨_, _, o, ho, hB⟩ := hr.blk _ _ hy
  obtain ⟨es, rfl, hes, hkt⟩ := hB.map (beq_true.1 g1)
  have hk2 : (hget H m.p).kind ≠ 0 := by rw [beq_true.1 g1]; decide
  have hk5 : (hget H m.p).kind ≠ 5 := by rw [beq_true.1 g1]; decide
  have hk7 : (hget H m.p).kind ≠ 7 := by rw [beq_true.1 g1]; decide
  obtain ⟨rfl, l1, _⟩ := hs.of_int (c := 3) (by omega) (beq_true.1 g2)
  have v1 : valI 3 s.p = (s.p : Int) := valI_lt (by rw [kHalf_3]; omega)
  rw [v1]
  obtain ⟨j, e1, e2⟩ := setN_ok hes hx he
  obtain ⟨s1, s2, s3⟩ := set_heap (w := w) (.map (es.modify j fun e => { e with val := vx }).toArray (hget H m.p).e) ho
  refine Out.set (x := y) (w' := { w with heap := w.heap.setIfInBounds y (.map (es.modify j fun e => { e with val := vx }).toArray (hget H m.p).e) }) hr hy hk2 ?_ (.ud _ _ _ _ _) ⟨?_, rfl⟩ s1 s2 s3 rfl rfl rfl hok (fun h => absurd h hk5)
  · exact ⟨(fun h => by cases h), fun _ => ⟨_, rfl, e2, hkt⟩, (fun h => by cases h), (fun h => by exact no42 h)⟩
  · unfold Instr.entryStore
    have hfi : es.toArray.findIdx? (fun e => (e.born : Int) == (s.p : Int)) = some j := by simpa using e1
    have hint : (asInt (.int (kOf 3) (s.p : Int))).run P w = .ok (s.p : Int) w := rfl
    simp only [Sem.run_bind, run_getMap ho, Result.andThen_ok, hint, Sem.run_pure', hfi]
    rw [run_setObj _ ho (fun _ _ _ h => by cases h)]
    simp
end Go.Eng
