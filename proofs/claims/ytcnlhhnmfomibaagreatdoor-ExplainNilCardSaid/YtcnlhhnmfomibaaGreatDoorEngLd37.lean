/- A part of the proof that the evaluator in EngC answers as the model does; no conditions. -/
import Derived.Test.YtcnlhhnmfomibaaGreatDoorEngEv37
import Derived.Test.YtcnlhhnmfomibaaGreatDoorRows
namespace Go.Eng
open Go.RowKit Go.Proofs Go.Proofs.YtcnlhhnmfomibaaGreatDoor
def kindsT : List (List UInt8 × Nat × Nat) := [([], 0, 0), ([114, 101, 102, 108], 0, 0), ([115, 121, 109], 1, 1), ([116, 114, 97, 110, 115], 2, 2), ([99, 111, 110, 103], 0, 3), ([114, 117, 108, 101], 0, 12), ([102, 111, 108, 100], 0, 0), ([116, 111, 112], 0, 0), ([110, 111, 100, 101], 0, 3), ([109, 101, 101, 116], 2, 2), ([109, 111, 118, 101], 2, 2), ([115, 105, 110, 103, 108, 101], 1, 1), ([103, 105, 118, 101, 110], 0, 0)]
def tripA (t : List UInt8 × Nat × Nat) : List AV := [⟨9, bytesN t.1, t.1.length, 0, 0, []⟩, mk1 3 t.2.1, mk1 3 t.2.2]
def tripD (t : List UInt8 × Nat × Nat) : DataW Unit := .agg [.lit (.string t.1), .lit (.int .i64 t.2.1), .lit (.int .i64 t.2.2)]
theorem kinds_data : (Rows.laid_saturate_proof_kinds : DataW Unit) = .agg (kindsT.map tripD) := rfl
theorem kinds_flat : kindsL = (kindsT.map tripA).flatten := by kernel_rfl
theorem kinds_small : ∀ t ∈ kindsT, t.2.1 < 100 ∧ t.2.2 < 100 := by decide
theorem trips_vr {φ : Ph} (ts : List (List UInt8 × Nat × Nat)) : ∀ {cs : List Value}, (∀ t ∈ ts, t.2.1 < 100 ∧ t.2.2 < 100) → cs.length = ts.length * 3 →
    (∀ i t, ts[i]? = some t → (cs.drop (i * 3)).take 3 = [.string ⟨t.1.toArray⟩, .int .i64 (t.2.1 : Int), .int .i64 (t.2.2 : Int)]) → VRs φ (ts.map tripA).flatten cs := by
  induction ts with
  | nil => intro cs _ hl _; simp at hl; subst hl; exact .nil
  | cons t ts ih =>
    intro cs hs hl h
    have h0 := h 0 t rfl
    simp only [Nat.zero_mul, List.drop_zero] at h0
    have hcs : cs = [.string ⟨t.1.toArray⟩, .int .i64 (t.2.1 : Int), .int .i64 (t.2.2 : Int)] ++ cs.drop 3 := by rw [← h0, List.take_append_drop]
    have hr : VRs φ (ts.map tripA).flatten (cs.drop 3) := by
      refine ih (fun u hu => hs u (List.mem_cons_of_mem _ hu)) (by simp at hl ⊢; omega) fun i u hu => ?_
      have := h (i + 1) u (by simpa using hu)
      rw [List.drop_drop]
      rw [show 3 + i * 3 = (i + 1) * 3 by omega]
      exact this
    have hsm := hs t (by simp)
    have vi : ∀ n : Nat, n < 100 → VR φ (mk1 3 n) (.int .i64 (n : Int)) := fun n hn => vr_nat (by omega)
    rw [hcs, List.map_cons, List.flatten_cons]
    exact .cons (.str t.1 0 0 []) (.cons (vi _ hsm.1) (.cons (vi _ hsm.2) hr))
section
variable {X : Type} {enc : TypeId × Value → X} {W : World} {base : Nat} {spare : Nat → Bool} {held : Bool} {P : Program}
theorem trod_array {fuel : Nat} {t e : TypeId} {k : Nat} {cs : List Value} {x : DataW X × List MemPlace} (ht : P.underlying t = some (.array k e)) (h : DataW.trod enc P W base spare held fuel t cs = some x) :
    ∃ n xs, fuel = n + 1 ∧ cs.length = P.cellsOf t ∧ ((List.range k).mapM fun i => DataW.trod enc P W base spare held n e ((cs.drop (i * P.cellsOf e)).take (P.cellsOf e))) = some xs ∧ x.1 = .agg (xs.map (·.1)) := by
  cases fuel with
  | zero => cases h
  | succ n =>
    simp only [DataW.trod, ht] at h
    split at h
    · rename_i hc
      obtain ⟨xs, h2, h3⟩ := Option.map_eq_some_iff.1 h
      subst h3
      exact ⟨n, xs, rfl, hc, h2, rfl⟩
    · cases h
end
theorem laid_at {P : Program} {w : World} {n : String} {d : DataW Unit} : ∀ {l : List (String × DataW Unit)} {ps : List MemPlace}, DataW.LaidVars P w l ps → (n, d) ∈ l →
    ∃ g t cs fuel p, P.globalNamed n = some g ∧ (P.globals[g]?).map (·.type) = some t ∧ w.var? P n = some cs ∧ DataW.trod (fun _ => ()) P w 0 (fun _ => true) false fuel t cs.toList = some (d, p) ∧ ∀ x ∈ MemPlace.row ⟨g, 0, none⟩ cs.size, x ∈ ps := by
  intro l
  induction l with
  | nil => intro ps _ h; cases h
  | cons a l ih =>
    intro ps h hm
    obtain ⟨n', d'⟩ := a
    obtain ⟨g, t, cs, fuel, p, q, h1, h2, h3, h4, h5, rfl⟩ := h
    rcases List.mem_cons.1 hm with e | hm
    · cases e; exact ⟨g, t, cs, fuel, p, h1, h2, h3, h4, fun x hx => by simp [hx]⟩
    · obtain ⟨g', t', cs', fuel', p', k1, k2, k3, k4, k5⟩ := ih h5 hm
      exact ⟨g', t', cs', fuel', p', k1, k2, k3, k4, fun x hx => by have := k5 x hx; simp [this]⟩
theorem var_heap {P : Program} {w : World} {n : String} {g : Nat} {cs : Array Value} (hg : P.globalNamed n = some g) (h : w.var? P n = some cs) : ∃ t fr, w.heap[g]? = some (.cells cs t fr) := by
  unfold World.var? at h
  rw [hg] at h
  simp only [Option.bind_some] at h
  split at h
  · rename_i cs' t fr e; cases h; exact ⟨t, fr, e⟩
  · cases h
set_option maxRecDepth 100000 in
theorem laidOk_of {W : World} (h : laidMet Tryz.prog Rows.explainNilRow.laid W) : LaidOk W := by
  obtain ⟨ps, hv, _, hcell⟩ := h
  have g4 : Tryz.prog.globalNamed "math/bits.deBruijn64tab" = some 4 := by kernel_rfl
  have g0 : Tryz.prog.globalNamed "saturate/proof.kinds" = some 0 := by kernel_rfl
  obtain ⟨ga, ta, ca, fa, pa, a1, a2, a3, a4, a5⟩ := laid_at (n := "math/bits.deBruijn64tab") (d := Rows.laid_math_bits_deBruijn64tab) hv (by simp [Rows.explainNilRow])
  obtain ⟨gk, tk, ck, fk, pk, k1, k2, k3, k4, k5⟩ := laid_at (n := "saturate/proof.kinds") (d := Rows.laid_saturate_proof_kinds) hv (by simp [Rows.explainNilRow])
  rw [g4] at a1; cases a1
  rw [g0] at k1; cases k1
  obtain ⟨t4, f4, h4⟩ := var_heap g4 a3
  obtain ⟨t0, f0, h0⟩ := var_heap g0 k3
  have ht : (Tryz.prog.globals[0]?).map (·.type) = some 425 := by kernel_rfl
  rw [ht] at k2; cases k2
  obtain ⟨n, xs, rfl, hlen, hm, hx⟩ := trod_array Tryz.underlying425 k4
  have hc425 : Tryz.prog.cellsOf 425 = 39 := by kernel_rfl
  have hc424 : Tryz.prog.cellsOf 424 = 3 := by kernel_rfl
  rw [hc425] at hlen
  rw [hc424] at hm
  refine ⟨(Array.getElem?_eq_some_iff.1 h4).1, ck.toList, [], t0, ?_, fun φ => ?_⟩
  · obtain ⟨⟨c', t', e'⟩, _⟩ := hcell 0 0 (k5 _ (by
      unfold MemPlace.row
      rw [List.mem_map]
      exact ⟨0, by simp at hlen ⊢; omega, rfl⟩))
    rw [h0] at e'
    cases e'
    simpa using h0
  · rw [kinds_flat]
    refine trips_vr kindsT kinds_small (by rw [show kindsT.length * 3 = 39 by decide]; simpa using hlen) fun i t hi => ?_
    have hi13 : i < 13 := (List.getElem?_eq_some_iff.1 hi).1
    obtain ⟨y, hy, hy2⟩ := mapM_at hm i i (by simp [hi13])
    have hy1 : y.1 = tripD t := by
      have e1 : (DataW.agg (kindsT.map tripD) : DataW Unit) = .agg (xs.map (·.1)) := hx
      injection e1 with e1
      have e2 : (kindsT.map tripD)[i]? = (xs.map (·.1))[i]? := by rw [e1]
      rw [List.getElem?_map, List.getElem?_map, hi, hy2] at e2
      simpa using e2.symm
    obtain ⟨m, zs, _, hl3, hz, hzx⟩ := trod_struct Tryz.underlying424 hy
    rw [hc424] at hl3
    obtain ⟨v0, v1, v2, hv⟩ : ∃ v0 v1 v2, (ck.toList.drop (i * 3)).take 3 = [v0, v1, v2] := by
      generalize (ck.toList.drop (i * 3)).take 3 = l at hl3
      match l, hl3 with
      | [v0, v1, v2], _ => exact ⟨v0, v1, v2, rfl⟩
    rw [hv] at hz ⊢
    obtain ⟨y0, e0, q0⟩ := mapM_at hz 0 _ rfl
    obtain ⟨y1, e1, q1⟩ := mapM_at hz 1 _ rfl
    obtain ⟨y2, e2, q2⟩ := mapM_at hz 2 _ rfl
    have c9 : Tryz.prog.cellsOf 9 = 1 := by kernel_rfl
    have c3 : Tryz.prog.cellsOf 3 = 1 := by kernel_rfl
    simp only [c9, c3, List.drop_zero, List.drop_succ_cons, List.take_succ_cons, List.take_zero] at e0 e1 e2
    obtain ⟨s, rfl, w0⟩ := trod_str Tryz.underlying9 e0
    obtain ⟨a, rfl, w1⟩ := trod_int Tryz.underlying3 e1
    obtain ⟨b, rfl, w2⟩ := trod_int Tryz.underlying3 e2
    rw [hy1] at hzx
    unfold tripD at hzx
    injection hzx with hzx
    have z0 : (zs.map (·.1))[0]? = some (.lit (.string t.1)) := by rw [← hzx]; rfl
    have z1 : (zs.map (·.1))[1]? = some (.lit (.int .i64 t.2.1)) := by rw [← hzx]; rfl
    have z2 : (zs.map (·.1))[2]? = some (.lit (.int .i64 t.2.2)) := by rw [← hzx]; rfl
    rw [List.getElem?_map, q0] at z0
    rw [List.getElem?_map, q1] at z1
    rw [List.getElem?_map, q2] at z2
    simp only [Option.map_some, Option.some.injEq] at z0 z1 z2
    rw [w0] at z0
    rw [w1] at z1
    rw [w2] at z2
    injection z0 with z0
    injection z0 with z0
    injection z1 with z1
    injection z1 with _ z1
    injection z2 with z2
    injection z2 with _ z2
    rw [z1, z2, ← z0]
end Go.Eng
