
/- A part of the proof that the evaluator in GnC, and the driver in GnZ, answer as the model does; no conditions. -/
import Derived.Test.YtfmoohdaimlggaaGreatDoorGnS10
namespace Go.Eng
open Go.RowKit
variable {P : Program} {w0 : World} {H : Hp} {φ : Ph} {c : Kont} {w : World}

theorem made_toList {z : Array Value} {sz : Nat} (hz : z.size = sz) (m : Nat) : (madeCells z (m * sz)).toList = (List.replicate m z.toList).flatten := by
  induction m with
  | zero => simp [madeCells]
  | succ m ih =>
    rw [List.replicate_succ, List.flatten_cons, ← ih]
    apply List.ext_getElem?
    intro k
    have hl : z.toList.length = sz := by simpa using hz
    by_cases hk : k < (m + 1) * sz
    · have hpos : 0 < sz := by
        rcases Nat.eq_zero_or_pos sz with h | h
        · subst h; simp at hk
        · exact h
      have e1 : (madeCells z ((m + 1) * sz)).toList[k]? = some (z[k % sz]!) := by simp [madeCells, hk, hz]
      rw [e1]
      by_cases h1 : k < sz
      · rw [List.getElem?_append_left (by omega), Nat.mod_eq_of_lt h1]
        simp [hz, h1]
      · rw [List.getElem?_append_right (by omega), hl]
        have hk' : k - sz < m * sz := by rw [Nat.add_mul] at hk; omega
        have e2 : (k - sz) % sz = k % sz := by
          rw [← Nat.add_mod_right (k - sz) sz]; congr 1; omega
        simp [madeCells, hk', hz, e2]
    · rw [List.getElem?_eq_none (by simp [madeCells]; omega), List.getElem?_eq_none]
      rw [List.length_append, hl]
      simp only [Array.length_toList, size_madeCells]
      rw [Nat.add_mul] at hk; omega
theorem cells_ok_rep {z : List AV} (h : ∀ c ∈ z, okCell c = true) (n : Nat) : ∀ c ∈ repC n z, okCell c = true := by
  induction n with
  | zero => intro c hc; cases hc
  | succ n ih =>
    intro c hc
    have hc : c ∈ appL z (repC n z) := hc
    rw [appL_eq, List.mem_append] at hc
    rcases hc with hc | hc
    · exact h c hc
    · exact ih c hc
theorem build_out {t : TypeId} {z : AV} {is : List Nat} {pl : List (Nat × Nat)} {vs : List AV} {vals : List Value} {parts : Array (Nat × Value)} (hz : (zeB P t).run = some z) (hp : parts.toList = is.zip vals) (hl : is.length = vals.length)
    (hpl : (∃ fs pls, (tyB P t).run = some (.struct fs) ∧ (fs.toList.mapM fun f => (P.info? f.type).map fun i => (f.offset, i.size)) = some pls ∧ placesOf (fun i => pls.toArray[i]?) is = some pl) ∨
      (∃ n e sz, (tyB P t).run = some (.array n e) ∧ (szB P e).run = some sz ∧ placesOf (fun i => some (i * sz, sz)) is = some pl))
    (hv : VRs φ vs vals) (hr : HR P w0 H φ w) (hok : AllOk ((buildC pl (cellsOf z)).run vs H c)) :
    Out P w0 (fun v w' => (Instr.build t parts).run P w = .ok v w') H φ ((buildC pl (cellsOf z)).run vs H c) c := by
  refine Out.om hok fun cs hcs _ => ?_
  obtain ⟨i, zv, hi, hzv, hzr, hc⟩ := ze_ok hz
  obtain ⟨h1, h2⟩ := (hzr φ).cells hc
  have fin : ∀ (place : Nat → Option (Nat × Nat)), placesOf place is = some pl → (∀ r, Instr.fill place zv.cells parts.toList = some r → P.built t parts.toList = some r) →
      Out P w0 (fun v w' => (Instr.build t parts).run P w = .ok v w') H φ (c H (aggV cs)) c := by
    intro place hpl hb
    obtain ⟨r, q1, q2, q3⟩ := fill_ok is pl vs vals _ cs zv.cells hpl hv h1 h2 hcs hl
    rw [← hp] at q1
    refine Out.same hr ?_ (run_build w t parts r (hb r q1))
    have := VR.agg (φ := φ) 0 0 0 0 cs r.toList q2 q3
    simpa [aggV] using this
  rcases hpl with ⟨fs, pls, hu, hm, hpl⟩ | ⟨n, e, sz, hu, hs, hpl⟩
  · refine fin _ hpl fun r hr => ?_
    unfold Program.built
    rw [hi, show P.underlying t = _ from hu]
    simp only [hzv, hm]
    exact hr
  · obtain ⟨ie, hie, rfl⟩ := Option.map_eq_some_iff.1 (show (P.info? e).map (·.size) = some sz from hs)
    refine fin _ hpl fun r hr => ?_
    unfold Program.built
    rw [hi, show P.underlying t = _ from hu]
    simp only [hzv, hie]
    exact hr
theorem capS_ex (n : Nat) : capS (exS n) = n ∧ isEx (exS n) = true := by
  have e1 : ∀ x y, Nat.div x y = x / y := fun _ _ => rfl
  have e2 : ∀ x y, Nat.mul x y = x * y := fun _ _ => rfl
  have e3 : Nat.land (exS n) 1 = exS n &&& 1 := rfl
  unfold isEx capS
  rw [e1, e3, Nat.and_one_is_mod]
  unfold exS
  rw [e2]
  exact ⟨by omega, by rw [beq_true]; omega⟩
theorem capS_lb (n : Nat) : capS (lbS n) = n ∧ isEx (lbS n) = false := by
  have e1 : ∀ x y, Nat.div x y = x / y := fun _ _ => rfl
  have e2 : ∀ x y, Nat.mul x y = x * y := fun _ _ => rfl
  have e3 : Nat.land (lbS n) 1 = lbS n &&& 1 := rfl
  unfold isEx capS
  rw [e1, e3, Nat.and_one_is_mod]
  unfold lbS
  rw [e2]
  exact ⟨by omega, by rw [beq_false]; omega⟩
theorem vr_slEx {b x len cap : Nat} (h : φ b = some x) (hl : len ≤ cap) (off : Nat) : VR φ (slV b off len (exS cap)) (.slice (some ⟨x, off, none⟩) len cap) :=
  .sl b x off len cap (exS cap) [] h (by rw [(capS_ex cap).1]; exact hl) (by rw [(capS_ex cap).1]; exact Nat.le_refl _) (fun _ => (capS_ex cap).1.symm) (fun h => by rw [(capS_ex cap).2] at h; cases h)
theorem buildSlice_out {t e : TypeId} {z : AV} {sz len : Nat} {is : List Nat} {pl : List (Nat × Nat)} {vs : List AV} {vals : List Value} {parts : Array (Nat × Value)} (hu : (tyB P t).run = some (.slice e)) (hs : (szB P e).run = some sz) (hz : (zeB P e).run = some z)
    (hp : parts.toList = is.zip vals) (hl : is.length = vals.length) (hpl : placesOf (fun i => some (i * sz, sz)) is = some pl) (hsm : len * sz ≤ 100000) (hzs : (cellsOf z).length = sz)
    (hv : VRs φ vs vals) (hr : HR P w0 H φ w) (hok : AllOk ((buildSliceC pl (repC len (cellsOf z)) len).run vs H c)) :
    Out P w0 (fun v w' => (Instr.buildSlice t len parts).run P w = .ok v w') H φ ((buildSliceC pl (repC len (cellsOf z)) len).run vs H c) c := by
  refine Out.om hok fun cs hcs hok => ?_
  obtain ⟨i, zv, hi, hzv, hzr, hc⟩ := ze_ok hz
  obtain ⟨h1, h2⟩ := (hzr φ).cells hc
  obtain ⟨ie, hie, he⟩ := Option.map_eq_some_iff.1 (show (P.info? e).map (·.size) = some sz from hs)
  rw [hi] at hie; cases hie
  have hzsz : zv.cells.size = sz := by rw [h1.length] at hzs; simpa using hzs
  have hmade := made_toList hzsz len
  have h3 : VRs φ (repC len (cellsOf z)) (madeCells zv.cells (len * sz)).toList := by rw [hmade]; exact h1.repC len
  obtain ⟨r, q1, q2, q3⟩ := fill_ok is pl vs vals _ cs _ hpl hv h3 (cells_ok_rep h2 len) hcs hl
  rw [← hp] at q1
  refine Out.new (o := .cells r e) (val := .slice (some ⟨w.heap.size, 0, none⟩) len len) hr ?_ ?_ ?_ hok
  · exact ⟨fun _ => ⟨r.toList, [], e, by simp, q2, q3, (fun h => by cases h), (fun h => by exact no21 h)⟩, fun h => by simp [cellsB] at h, fun h => by simp [cellsB] at h, no41⟩
  · intro φ' _ h; exact vr_slEx h (Nat.le_refl _) 0
  · subst he
    by_cases h0 : len * i.size = 0
    · rw [h0] at q1
      have q1' : Instr.fill (fun k => some (k * i.size, i.size)) (#[] : Array Value) parts.toList = some r := by
        have e0 : madeCells zv.cells 0 = #[] := by simp [madeCells]
        rw [e0] at q1
        exact q1
      simp [Instr.buildSlice, run_underlying hu, sizeOf, typeInfo, hi, h0, newRow]
      rw [show Array.map (fun _ => (default : Value)) (Array.range 0) = #[] from by simp, q1']
      rfl
    · refine run_buildSlice w t e len parts r i zv hu hi hzv (by omega) h0 ?_
      exact q1
theorem makeSlice_out {t e : TypeId} {z : AV} {sz bt : Nat} {a b : AV} {va vb : Value} (hu : (tyB P t).run = some (.slice e)) (hs : (szB P e).run = some sz) (hbt : (btB P e).run = some bt) (hz : (zeB P e).run = some z) (hb6 : bt ≤ 1000000) (hzs : (cellsOf z).length = sz)
    (ha : VR φ a va) (hb : VR φ b vb) (hr : HR P w0 H φ w) (hok : AllOk ((makeSliceC (cellsOf z)).run a b H c)) :
    Out P w0 (fun v w' => (Instr.makeSlice t va vb).run P w = .ok v w') H φ ((makeSliceC (cellsOf z)).run a b H c) c := by
  refine Out.bi hok fun g1 hok => Out.bi hok fun g2 hok => Out.bi hok fun g3 hok => Out.bi hok fun g4 hok => ?_
  obtain ⟨i, zv, hi, hzv, hzr, hc⟩ := ze_ok hz
  obtain ⟨h1, h2⟩ := (hzr φ).cells hc
  obtain ⟨ie, hie, he⟩ := Option.map_eq_some_iff.1 (show (P.info? e).map (·.size) = some sz from hs)
  rw [hi] at hie; cases hie
  obtain ⟨ie, hie, he'⟩ := Option.map_eq_some_iff.1 (show (P.info? e).map (·.bytes) = some bt from hbt)
  rw [hi] at hie; cases hie
  have g3' := ble_true.1 g3; have g4' := ble_true.1 g4
  obtain ⟨rfl, l1, _⟩ := ha.of_int (c := 3) (by omega) (beq_true.1 g1)
  obtain ⟨rfl, l2, _⟩ := hb.of_int (c := 3) (by omega) (beq_true.1 g2)
  have v1 : valI 3 a.p = (a.p : Int) := valI_lt (by rw [kHalf_3]; omega)
  have v2 : valI 3 b.p = (b.p : Int) := valI_lt (by rw [kHalf_3]; omega)
  rw [v1, v2]
  have hzsz : zv.cells.size = i.size := by rw [h1.length] at hzs; rw [he]; simpa using hzs
  have hm := made_toList hzsz b.p
  have hbytes : (i.bytes : Int) * (b.p : Int) ≤ 281474976710656 := by
    have : i.bytes * b.p ≤ 1000000 * 100000 := Nat.mul_le_mul (by omega) g4'
    have h' : ((i.bytes * b.p : Nat) : Int) ≤ 281474976710656 := by omega
    rwa [Int.natCast_mul] at h'
  have hrun := run_make w t e i zv hu hi hzv .i64 .i64 (a.p : Int) (b.p : Int) (by omega) (by omega) hbytes (by omega)
  simp only [Int.toNat_natCast] at hrun
  refine Out.new (o := .cells (madeCells zv.cells (b.p * i.size)) e) (val := .slice (some ⟨w.heap.size, 0, none⟩) a.p b.p) hr ?_ ?_ hrun hok
  · exact ⟨fun _ => ⟨(madeCells zv.cells (b.p * i.size)).toList, [], e, by simp, by rw [hm]; exact h1.repC b.p, cells_ok_rep h2 b.p, (fun h => by cases h), (fun h => by exact no21 h)⟩, fun h => by simp [cellsB] at h, fun h => by simp [cellsB] at h, no41⟩
  · intro φ' _ h; exact vr_slEx h g3' 0
theorem makeFunc_out {f : Nat} {first cap : List Value} {vs : List AV} (hv : VRs φ vs (first ++ cap)) (hr : HR P w0 H φ w) :
    Out P w0 (fun v w' => (Instr.makeFunc (.func f) first.toArray cap.toArray).run P w = .ok v w') H φ ((makeFuncC f first.length).run vs H c) c :=
  Out.same hr (.fn f first.length 0 0 vs first cap hv rfl) rfl
theorem Ents.length {kt ck : Nat} {as : List AV} {es : List MapEntry} (h : Ents φ kt ck as es) : as.length = es.length := by
  induction h with
  | nil => rfl
  | cons _ _ _ _ _ ih => simp [ih]
theorem lenK_out {Y : Value → World → Prop} {n : Nat} (hr : HR P w0 H φ w) (hy : Y (goInt n) w) (hok : AllOk (lenK n H c)) : Out P w0 Y H φ (lenK n H c) c := by
  refine Out.bi hok fun h1 _ => ?_
  have h1' := ble_true.1 h1
  have hv := vr_int (φ := φ) (k := 3) (p := n) (by omega) (by rw [kMod_3]; omega)
  rw [valI_lt (by rw [kHalf_3]; omega)] at hv
  exact Out.same hr hv hy
theorem trod_slice {X : Type} {enc : TypeId × Value → X} {base : Nat} {spare : Nat → Bool} {held : Bool} {fuel : Nat} {t e : TypeId} {v : Value} {x : DataW X × List MemPlace} (ht : P.underlying t = some (.slice e))
    (h : DataW.trod enc P w base spare held fuel t [v] = some x) : v = .slice none 0 0 ∨ ∃ a len cap n elems, fuel = n + 1 ∧ v = .slice (some a) len cap ∧ len ≤ maxLen ∧
      ((List.range len).mapM fun i => (w.cells? base (a.add (i * P.cellsOf e)) (P.cellsOf e)).bind (DataW.trod enc P w base spare held n e)) = some elems := by
  cases fuel with
  | zero => cases h
  | succ n =>
    simp only [DataW.trod, ht] at h
    split at h <;> rename_i h1 h2 <;> first | (cases h1; done) | skip
    · simp only [List.cons.injEq, and_true] at h2
      exact .inl h2
    · rename_i e' a len cap
      simp only [Option.some.injEq, TypeDesc.slice.injEq, List.cons.injEq, and_true] at h1 h2
      subst h1 h2
      split at h
      · rename_i hc
        obtain ⟨elems, he, _⟩ := Option.bind_eq_some_iff.1 h
        exact .inr ⟨_, _, _, n, elems, rfl, rfl, Nat.le_trans hc.2.1 hc.2.2, he⟩
      · cases h
    all_goals first | (cases h; done) | (simp at h2; done) | (simp at h1; done)
theorem len_out {t ty : TypeId} {tys : Array TypeId} {a : AV} {va : Value} (ht0 : tys[0]? = some t) (ha : VR φ a va) (hr : HR P w0 H φ w) (hok : AllOk ((lenC P t).run a H c)) :
    Out P w0 (fun v w' => (Builtin.len_ tys ty #[va]).run P w = .ok v w') H φ ((lenC P t).run a H c) c := by
  have h0 : (#[va] : Array Value)[0]? = some va := rfl
  unfold lenC at hok ⊢
  cases ht : (tyB P t).run with
  | none => rw [ht] at hok; exact (failR_bad hok).elim
  | some d =>
    rw [ht] at hok
    cases d <;> simp only at hok ⊢
    case string =>
      refine Out.bi hok fun h1 hok => ?_
      obtain ⟨l, rfl, _, e⟩ := ha.of_str (beq_true.1 h1)
      refine lenK_out hr ?_ hok
      simp only [Builtin.len_, ht0, h0, Sem.run_bind, run_und ht, Result.andThen_ok, e]
      rfl
    case slice e =>
      refine Out.bi2 hok (fun _ hok => ?_) fun _ hok => lenY_out ht0 ht ha hr hok
      refine Out.bi2 hok (fun h1 hok => ?_) fun _ hok => Out.bi2 hok (fun h1 hok => ?_) fun _ hok => Out.bi hok fun h1 hok => Out.bi hok fun h2 _ => ?_
      · obtain ⟨x, cap, rfl, _⟩ := ha.of_sl (beq_true.1 h1)
        refine lenK_out hr ?_ hok
        simp only [Builtin.len_, ht0, h0, Sem.run_bind, run_und ht, Result.andThen_ok]; rfl
      · have := ha.isNil h1; simp only at this; subst this
        refine lenK_out hr ?_ hok
        simp only [Builtin.len_, ht0, h0, Sem.run_bind, run_und ht, Result.andThen_ok]; rfl
      · obtain ⟨⟨_, _, _, hop⟩, _, _⟩ := ha.of_opq (beq_true.1 h1)
        have hp : a.p = 32 + t := beq_true.1 h2
        obtain ⟨X, enc, spare, held, fuel, x, hx⟩ := hr.op.1 t va (by rw [← hp]; exact hop (by omega))
        rcases trod_slice ht hx with rfl | ⟨b, len, cap, _, _, _, rfl, _⟩
        · refine Out.same hr (.pos 0 0 0 0 [] 0 (by omega)) ?_
          simp only [Builtin.len_, ht0, h0, Sem.run_bind, run_und ht, Result.andThen_ok]; rfl
        · refine Out.same hr (.pos 0 0 0 0 [] (len : Int) (by omega)) ?_
          simp only [Builtin.len_, ht0, h0, Sem.run_bind, run_und ht, Result.andThen_ok]; rfl
    case map k e =>
      refine Out.bi2 hok (fun h1 hok => Out.bi hok fun hk hok => ?_) fun _ hok => Out.bi hok fun h1 hok => ?_
      · obtain ⟨x, rfl, hx⟩ := ha.of_map (beq_true.1 h1)
        obtain ⟨_, _, o, ho, hB⟩ := hr.blk _ _ hx
        obtain ⟨es, rfl, hes, _⟩ := hB.map (beq_true.1 hk)
        refine lenK_out hr ?_ hok
        simp only [Builtin.len_, ht0, h0, Sem.run_bind, run_und ht, Result.andThen_ok]
        rw [lenL_eq, hes.length]
        simp [getObj, Sem.run, ho]
      · have := ha.isNil h1; simp only at this; subst this
        refine lenK_out hr ?_ hok
        simp only [Builtin.len_, ht0, h0, Sem.run_bind, run_und ht, Result.andThen_ok]; rfl
    case array n e =>
      refine lenK_out hr ?_ hok
      simp only [Builtin.len_, ht0, h0, Sem.run_bind, run_und ht, Result.andThen_ok]; rfl
    case pointer p =>
      cases hp : (tyB P p).run with
      | none => rw [hp] at hok; exact (failR_bad hok).elim
      | some d =>
        rw [hp] at hok
        cases d <;> simp only at hok ⊢
        case array n e =>
          refine lenK_out hr ?_ hok
          simp only [Builtin.len_, ht0, h0, Sem.run_bind, run_und ht, run_und hp, Result.andThen_ok]; rfl
        all_goals exact (failR_bad hok).elim
    all_goals exact (failR_bad hok).elim
theorem minmax_out {isMax : Bool} {ty : TypeId} {tys : Array TypeId} {k : IntKind} {a b : AV} {va vb : Value} (ha : VR φ a va) (hb : VR φ b vb) (hr : HR P w0 H φ w) (hok : AllOk ((minmaxC isMax (kCode k)).run a b H c)) :
    Out P w0 (fun v w' => (bi isMax (Builtin.max_ tys ty #[va, vb]) (Builtin.min_ tys ty #[va, vb])).run P w = .ok v w') H φ ((minmaxC isMax (kCode k)).run a b H c) c := by
  refine int2_out (kCode_lt k) ha hb hr hok fun p q hp hq e1 e2 => ?_
  subst e1 e2
  have hcmp := cmp_val (kCode_lt k) hp hq
  cases isMax
  · refine ⟨.int (kOf (kCode k)) (if valI (kCode k) q < valI (kCode k) p then valI (kCode k) q else valI (kCode k) p), by simp [Builtin.min_, Builtin.min2], ?_⟩
    simp only [bi_false]
    cases h : nble (biased (kCode k) p) (biased (kCode k) q)
    · have := ble_false.1 h
      rw [if_pos (by omega)]; exact vr_int (kCode_lt k) hq
    · have := ble_true.1 h
      rw [if_neg (by omega)]; exact vr_int (kCode_lt k) hp
  · refine ⟨.int (kOf (kCode k)) (if valI (kCode k) q > valI (kCode k) p then valI (kCode k) q else valI (kCode k) p), by simp [Builtin.max_, Builtin.max2], ?_⟩
    simp only [bi_true]
    cases h : nble (biased (kCode k) p) (biased (kCode k) q)
    · have := ble_false.1 h
      rw [if_neg (by omega)]; exact vr_int (kCode_lt k) hp
    · have := ble_true.1 h
      by_cases hlt : valI (kCode k) q > valI (kCode k) p
      · rw [if_pos hlt]; exact vr_int (kCode_lt k) hq
      · rw [if_neg hlt]
        have : valI (kCode k) p = valI (kCode k) q := by omega
        rw [this]; exact vr_int (kCode_lt k) hq
theorem min3_out {ty : TypeId} {tys : Array TypeId} {k : IntKind} {a b d : AV} {va vb vd : Value} (ha : VR φ a va) (hb : VR φ b vb) (hd : VR φ d vd) (hr : HR P w0 H φ w) (hok : AllOk ((min3C (kCode k)).run a b d H c)) :
    Out P w0 (fun v w' => (Builtin.min_ tys ty #[va, vb, vd]).run P w = .ok v w') H φ ((min3C (kCode k)).run a b d H c) c := by
  have h1 : Out P w0 (fun v w' => (bi false (Builtin.max_ tys ty #[va, vb]) (Builtin.min_ tys ty #[va, vb])).run P w = .ok v w') H φ ((minmaxC false (kCode k)).run a b H fun H v => (minmaxC false (kCode k)).run v d H c) (fun H v => (minmaxC false (kCode k)).run v d H c) := minmax_out ha hb hr hok
  obtain ⟨H', v, φ', val, w', g1, g2, g3, g4, g5⟩ := h1
  have hok' : AllOk ((minmaxC false (kCode k)).run v d H' c) := fun x hx => hok x (g1 x hx)
  obtain ⟨H2, v2, φ2, val2, w2, k1, k2, k3, k4, k5⟩ := minmax_out (P := P) (ty := ty) (tys := tys) g3 (hd.mono g5.keep) g4 hok'
  refine ⟨H2, v2, φ2, val2, w2, fun x hx => g1 x (k1 x hx), ?_, k3, k4, g5.trans k5⟩
  simp only [bi_false, Builtin.min_, List.foldlM_cons, List.foldlM_nil, Sem.run_bind, Sem.run_pure'] at g2 k2 ⊢
  have e1 : (Builtin.min2 va vb).run P w = .ok val w' := by
    cases h : (Builtin.min2 va vb).run P w with
    | ok a w => rw [h] at g2; simpa using g2
    | halt e w => rw [h] at g2; cases g2
  have e2 : (Builtin.min2 val vd).run P w' = .ok val2 w2 := by
    cases h : (Builtin.min2 val vd).run P w' with
    | ok a w => rw [h] at k2; simpa using k2
    | halt e w => rw [h] at k2; cases k2
  rw [e1, Result.andThen_ok, e2, Result.andThen_ok]
end Go.Eng
