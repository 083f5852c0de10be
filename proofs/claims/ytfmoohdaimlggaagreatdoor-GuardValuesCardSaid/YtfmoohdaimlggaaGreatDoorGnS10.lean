
/- A part of the proof that the evaluator in GnC, and the driver in GnZ, answer as the model does; no conditions. -/
import Derived.Test.YtfmoohdaimlggaaGreatDoorGnS9
import Derived.Great.BuildSlice
import Derived.Laws.MakeOwn
namespace Go.Eng
open Go.RowKit
variable {P : Program} {w0 : World} {H : Hp} {φ : Ph} {c : Kont} {w : World}

/-! ### constants and zero values -/
theorem atom_ok (v : Value) : VR φ (atomOf v) v ∧ ((atomOf v).tag ≠ 18 → okCell (atomOf v) = true) ∧ (atomOf v).tag ≠ 15 := by
  have unk : VR φ unkV v ∧ (unkV.tag ≠ 18 → okCell unkV = true) ∧ unkV.tag ≠ 15 := ⟨.unk _ _ _ _ _ _, fun h => absurd rfl h, by decide⟩
  unfold atomOf
  split
  · rename_i k n
    have hk := kCode_lt k
    have fin : ∀ p, p < kMod (kCode k) → valI (kCode k) p = n → VR φ (mk1 (kCode k) p) (.int k n) ∧ ((mk1 (kCode k) p).tag ≠ 18 → okCell (mk1 (kCode k) p) = true) ∧ (mk1 (kCode k) p).tag ≠ 15 := by
      intro p hp he
      refine ⟨?_, fun _ => ?_, ?_⟩
      · have := vr_int (φ := φ) hk hp
        rwa [he, kOf_kCode] at this
      · show bi (nble (kCode k) 14) true _ = true
        rw [ble_true.2 (by omega)]; rfl
      · show kCode k ≠ 15; omega
    have h2 := kHalf_le hk
    unfold intV
    cases n with
    | ofNat a =>
      show (VR φ (bi (nble (Nat.succ a) (kHalf (kCode k))) (mk1 (kCode k) a) unkV) _ ∧ _)
      cases h : nble (Nat.succ a) (kHalf (kCode k))
      · simpa [h] using unk
      · have := ble_true.1 h
        simpa [h] using fin a (by omega) (valI_lt (by omega))
    | negSucc a =>
      have h3 := kHalf_or hk
      cases h4 : nble 4 (kCode k)
      · cases h : nble (Nat.succ a) (kHalf (kCode k))
        · simpa [h, h4] using unk
        · have := ble_true.1 h
          have h4' := ble_false.1 h4
          have h5 : kMod (kCode k) = 2 * kHalf (kCode k) := by
            refine kinds (p := fun c => c < 4 → kMod c = 2 * kHalf c) ?_ ?_ ?_ ?_ ?_ ?_ ?_ ?_ hk h4' <;> intro h <;> first | decide | omega
          have e : Nat.sub (kMod (kCode k)) (Nat.succ a) = kMod (kCode k) - (a + 1) := rfl
          have := fin (Nat.sub (kMod (kCode k)) (Nat.succ a)) (by rw [e]; omega) (by rw [e, valI_ge (by omega), Int.negSucc_eq]; omega)
          simpa [h, h4] using this
      · simpa [h4] using unk
  · exact ⟨vr_bool _, fun _ => rfl, by show (8:Nat) ≠ 15; decide⟩
  · rename_i s
    refine ⟨?_, fun _ => rfl, by show (9:Nat) ≠ 15; decide⟩
    have := vr_str (φ := φ) s.data.toList
    simpa using this
  · exact ⟨.nilp _ _ _ _, fun _ => rfl, by decide⟩
  · exact ⟨.nils _ _ _ _, fun _ => rfl, by decide⟩
  · exact ⟨.nilm _ _ _ _, fun _ => rfl, by decide⟩
  · exact ⟨.nilf _ _ _ _, fun _ => rfl, by decide⟩
  · exact ⟨.nili _ _ _ _, fun _ => rfl, by decide⟩
  · exact unk
theorem atoms_ok (l : List Value) : VRs φ (l.map atomOf) l := by
  induction l with
  | nil => exact .nil
  | cons v l ih => exact .cons (atom_ok v).1 ih
theorem av_ok (v : Value) : VR φ (avOf v) v ∧ ((avOf v).tag ≠ 18 → cellsOk (avOf v) = true) := by
  have atom : avOf v = atomOf v → VR φ (avOf v) v ∧ ((avOf v).tag ≠ 18 → cellsOk (avOf v) = true) := by
    intro h
    rw [h]
    refine ⟨(atom_ok v).1, fun hne => ?_⟩
    unfold cellsOk
    rw [(atom_ok (φ := φ) v).2.1 hne]; rfl
  cases v <;> first | exact atom rfl | skip
  rename_i cs
  show VR φ (bi _ _ _) _ ∧ ((bi _ _ _ : AV).tag ≠ 18 → cellsOk (bi _ _ _) = true)
  cases h : allL okCell (cs.toList.map atomOf)
  · exact ⟨.unk _ _ _ _ _ _, fun hne => absurd rfl hne⟩
  · rw [allL_eq, List.all_eq_true] at h
    refine ⟨?_, fun _ => rfl⟩
    have := VR.agg (φ := φ) 0 0 0 0 (cs.toList.map atomOf) cs.toList (atoms_ok _) h
    simpa [aggV] using this
theorem ze_ok {t : TypeId} {z : AV} (h : (zeB P t).run = some z) : ∃ i zv, P.info? t = some i ∧ i.zero = some zv ∧ (∀ φ, VR φ z zv) ∧ cellsOk z = true := by
  unfold zeB at h
  cases hi : P.info? t with
  | none => rw [hi] at h; cases h
  | some i =>
    cases hz : i.zero with
    | none => rw [hi] at h; simp [hz] at h
    | some zv =>
      rw [hi] at h
      simp only [Option.bind_some, hz] at h
      cases h18 : nbeq (avOf zv).tag 18
      · rw [h18, bi_false] at h
        cases h
        exact ⟨i, zv, rfl, hz, fun φ => (av_ok zv).1, (av_ok (φ := ⟨fun _ => none, fun _ => 0, fun _ _ => False, fun _ => none, fun _ => 0⟩) zv).2 (beq_false.1 h18)⟩
      · rw [h18] at h; cases h
theorem alloc_out {t : TypeId} {z : AV} (hz : (zeB P t).run = some z) (hr : HR P w0 H φ w) (hok : AllOk ((allocC z).run H c)) :
    Out P w0 (fun v w' => (Instr.alloc t true (.tuple #[])).run P w = .ok v w') H φ ((allocC z).run H c) c := by
  obtain ⟨i, zv, hi, hzv, hv, hc⟩ := ze_ok hz
  obtain ⟨h1, h2⟩ := (hv φ).cells hc
  refine Out.new (o := .cells zv.cells t) (val := .pointer (some ⟨w.heap.size, 0, none⟩)) hr ?_ ?_ ?_ hok
  · exact ⟨fun _ => ⟨zv.cells.toList, [], t, by simp, h1, h2, (fun h => by cases h), (fun h => by exact no21 h)⟩, fun h => by simp [cellsB] at h, fun h => by simp [cellsB] at h, no41⟩
  · intro φ' _ h; exact .ptr _ _ _ _ _ _ h
  · simp only [Instr.alloc, newVar, newRow, Sem.run_bind, run_zero hi hzv, run_newObj, Result.andThen_ok, Sem.run_pure']

/-! ### parts put into cells -/
theorem fold_put (off : Nat) (v : List Value) (cs : Array Value) (h : off + v.length ≤ cs.size) :
    (v.zipIdx.foldl (fun cs (x : Value × Nat) => cs.setIfInBounds (off + x.2) x.1) cs).toList = cs.toList.take off ++ v ++ cs.toList.drop (off + v.length) := by
  obtain ⟨h1, h2⟩ := Great.foldl_set off v 0 cs
  have hl : cs.toList.length = cs.size := rfl
  apply List.ext_getElem?
  intro k
  rw [Array.getElem?_toList, h2 k]
  simp only [Nat.add_zero]
  by_cases h3 : k < off
  · rw [if_neg (by omega), List.append_assoc, List.getElem?_append_left (by rw [List.length_take, hl]; omega), List.getElem?_take, if_pos h3, Array.getElem?_toList]
  · by_cases h4 : k < off + v.length
    · rw [if_pos (by omega), List.append_assoc, List.getElem?_append_right (by rw [List.length_take, hl]; omega), List.length_take, hl, Nat.min_eq_left (by omega), List.getElem?_append_left (by omega)]
    · rw [if_neg (by omega), List.getElem?_append_right (by rw [List.length_append, List.length_take, hl]; omega), List.length_append, List.length_take, hl, Nat.min_eq_left (by omega), List.getElem?_drop, Array.getElem?_toList]
      congr 1; omega
theorem fill_ok {place : Nat → Option (Nat × Nat)} : ∀ (is : List Nat) (pl : List (Nat × Nat)) (vs : List AV) (vals : List Value) (cs0 cs : List AV) (zs : Array Value), placesOf place is = some pl → VRs φ vs vals → VRs φ cs0 zs.toList → (∀ c ∈ cs0, okCell c = true) →
    fillL pl vs cs0 = some cs → is.length = vals.length → ∃ r, Instr.fill place zs (is.zip vals) = some r ∧ VRs φ cs r.toList ∧ (∀ c ∈ cs, okCell c = true)
  | [], pl, vs, vals, cs0, cs, zs, hp, hv, hz, h1, h, hl => by
    cases hp
    cases h
    exact ⟨zs, by cases vals <;> rfl, hz, h1⟩
  | i :: is, pl, vs, vals, cs0, cs, zs, hp, hv, hz, h1, h, hl => by
    obtain ⟨oz, ho, hp⟩ := om_none' hp
    obtain ⟨r, hr, hp⟩ := om_none' hp
    cases hp
    cases hv with
    | nil => simp at hl
    | @cons a v as vs' ha hv =>
      obtain ⟨g1, h⟩ := bi_none' h
      obtain ⟨g2, h⟩ := bi_none' h
      obtain ⟨cs1, hc1, h⟩ := om_none' h
      obtain ⟨hfit, rfl⟩ := putC_some hc1
      obtain ⟨k1, k2⟩ := ha.cells g1
      have g2' := beq_true.1 g2
      rw [lenL_eq, k1.length] at g2'
      have hzl := hz.length
      have e1 := k1.length
      rw [e1] at hfit
      have hsz : v.cells.size = oz.2 := by simpa using g2'
      have hfit' : oz.1 + v.cells.toList.length ≤ zs.size := by simp only [Array.length_toList] at hzl hfit ⊢; omega
      have key := fold_put oz.1 v.cells.toList zs hfit'
      obtain ⟨r', q1, q2, q3⟩ := fill_ok is r as vs' (cs0.take oz.1 ++ cellsOf a ++ cs0.drop (oz.1 + (cellsOf a).length)) cs (v.cells.toList.zipIdx.foldl (fun cs (x : Value × Nat) => cs.setIfInBounds (oz.1 + x.2) x.1) zs) hr hv
        (by rw [key, e1]; exact ((hz.take _).append k1).append (hz.drop _))
        (by
          intro c hc
          rw [List.mem_append, List.mem_append] at hc
          rcases hc with (hc | hc) | hc
          · exact h1 c (List.mem_of_mem_take hc)
          · exact k2 c hc
          · exact h1 c (List.mem_of_mem_drop hc)) h (by simpa using hl)
      refine ⟨r', ?_, q2, q3⟩
      rw [List.zip_cons_cons]
      unfold Instr.fill
      obtain ⟨o1, o2⟩ := oz
      simp only [ho]
      rw [if_neg (by
        simp only [Array.length_toList] at hfit'
        simp only at hsz
        simp [hsz]; omega)]
      rw [← q1]
      congr 1
      rw [← Array.foldl_toList]
      simp
end Go.Eng
