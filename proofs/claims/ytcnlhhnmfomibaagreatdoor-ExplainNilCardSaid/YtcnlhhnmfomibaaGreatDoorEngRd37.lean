/- A part of the proof that the evaluator in EngC answers as the model does; no conditions. -/
import Derived.Test.YtcnlhhnmfomibaaGreatDoorEngCount
import Derived.DataReads
import Derived.DataElems
namespace Go.Eng
open Go.RowKit Go.Proofs
/-- what comes out of a list, asked one by one -/
theorem mapM_at {α β : Type} {f : α → Option β} : ∀ {l : List α} {r : List β}, l.mapM f = some r → ∀ (i : Nat) (a : α), l[i]? = some a → ∃ b, f a = some b ∧ r[i]? = some b := by
  intro l
  induction l with
  | nil => intro r _ i a h; simp at h
  | cons x l ih =>
    intro r h i a hi
    simp only [List.mapM_cons, Option.bind_eq_bind, Option.pure_def] at h
    obtain ⟨y, hy, h⟩ := Option.bind_eq_some_iff.1 h
    obtain ⟨ys, hys, h⟩ := Option.bind_eq_some_iff.1 h
    cases h
    cases i with
    | zero => simp at hi; subst hi; exact ⟨y, hy, by simp⟩
    | succ i => simpa using ih hys i a (by simpa using hi)
theorem cells_at {w : World} {base : Nat} {a : Addr} {n : Nat} {cs : List Value} (h : w.cells? base a n = some cs) : ∀ i, i < n → ∃ v, w.cell? (a.add i) = some v ∧ cs[i]? = some v := by
  unfold World.cells? at h
  split at h
  · intro i hi
    exact mapM_at h i i (by simp [hi])
  · cases h
section
variable {X : Type} {enc : TypeId × Value → X} {W : World} {base : Nat} {spare : Nat → Bool} {held : Bool} {P : Program}
theorem trod_int {fuel : Nat} {t : TypeId} {k : IntKind} {v : Value} {x : DataW X × List MemPlace} (ht : P.underlying t = some (.int k)) (h : DataW.trod enc P W base spare held fuel t [v] = some x) : ∃ n, v = .int k n ∧ x.1 = .lit (.int k n) := by
  cases fuel with
  | zero => cases h
  | succ n =>
    simp only [DataW.trod, ht] at h
    split at h <;> rename_i h1 h2 <;> first | (cases h; done) | (simp at h1; done) | (simp at h2; done) | skip
    rename_i k1 k2 m
    simp only [Option.some.injEq, TypeDesc.int.injEq, List.cons.injEq, and_true] at h1 h2
    subst h1 h2
    split at h
    · rename_i hc; obtain ⟨rfl, _⟩ := hc; cases h; exact ⟨_, rfl, rfl⟩
    · cases h
theorem trod_str {fuel : Nat} {t : TypeId} {v : Value} {x : DataW X × List MemPlace} (ht : P.underlying t = some .string) (h : DataW.trod enc P W base spare held fuel t [v] = some x) : ∃ s, v = .string s ∧ x.1 = .lit (.string s.data.toList) := by
  cases fuel with
  | zero => cases h
  | succ n =>
    simp only [DataW.trod, ht] at h
    split at h <;> rename_i h1 h2 <;> first | (cases h; done) | (simp at h1; done) | (simp at h2; done) | skip
    have h3 := (List.cons.inj h2).1
    subst h3
    split at h
    · cases h; exact ⟨_, rfl, rfl⟩
    · cases h
theorem trod_struct {fuel : Nat} {t : TypeId} {fs : Array Field} {cs : List Value} {x : DataW X × List MemPlace} (ht : P.underlying t = some (.struct fs)) (h : DataW.trod enc P W base spare held fuel t cs = some x) :
    ∃ n xs, fuel = n + 1 ∧ cs.length = P.cellsOf t ∧ (fs.toList.mapM fun f => DataW.trod enc P W base spare held n f.type ((cs.drop f.offset).take (P.cellsOf f.type))) = some xs ∧ x.1 = .agg (xs.map (·.1)) := by
  cases fuel with
  | zero => cases h
  | succ n =>
    simp only [DataW.trod, ht] at h
    split at h
    · rename_i hc
      obtain ⟨xs, h2, h3⟩ := Option.map_eq_some_iff.1 h
      subst h3
      exact ⟨n, xs, rfl, hc, h2, rfl⟩
    · cases h
end
set_option maxRecDepth 100000 in
/-- the parts of a term's own cells -/
theorem term_parts {X : Type} {enc : TypeId × Value → X} {W : World} {base : Nat} {spare : Nat → Bool} {held : Bool} {fuel : Nat} {cs : List Value} {x : DataW X × List MemPlace} (h : DataW.trod enc Tryz.prog W base spare held fuel 28 cs = some x) :
    ∃ n a b c s v y, fuel = n + 1 ∧ cs = [.int .i64 a, .int .i64 b, .int .u64 c, .string s, v] ∧ DataW.trod enc Tryz.prog W base spare held n 26 [v] = some y := by
  obtain ⟨n, xs, rfl, hl, hm, _⟩ := trod_struct Tryz.underlying28 h
  have hc28 : Tryz.prog.cellsOf 28 = 5 := by kernel_rfl
  rw [hc28] at hl
  obtain ⟨v0, v1, v2, v3, v4, rfl⟩ : ∃ v0 v1 v2 v3 v4, cs = [v0, v1, v2, v3, v4] := by
    match cs, hl with
    | [v0, v1, v2, v3, v4], _ => exact ⟨v0, v1, v2, v3, v4, rfl⟩
  obtain ⟨y0, e0, _⟩ := mapM_at hm 0 _ rfl
  obtain ⟨y1, e1, _⟩ := mapM_at hm 1 _ rfl
  obtain ⟨y2, e2, _⟩ := mapM_at hm 2 _ rfl
  obtain ⟨y3, e3, _⟩ := mapM_at hm 3 _ rfl
  obtain ⟨y4, e4, _⟩ := mapM_at hm 4 _ rfl
  have k0 : Tryz.prog.cellsOf 24 = 1 := by kernel_rfl
  have k1 : Tryz.prog.cellsOf 3 = 1 := by kernel_rfl
  have k2 : Tryz.prog.cellsOf 25 = 1 := by kernel_rfl
  have k3 : Tryz.prog.cellsOf 9 = 1 := by kernel_rfl
  have k4 : Tryz.prog.cellsOf 26 = 1 := by kernel_rfl
  simp only [k0, k1, k2, k3, k4, List.drop_zero, List.drop_succ_cons, List.take_succ_cons, List.take_zero] at e0 e1 e2 e3 e4
  obtain ⟨a, rfl, _⟩ := trod_int Tryz.underlying24 e0
  obtain ⟨b, rfl, _⟩ := trod_int Tryz.underlying3 e1
  obtain ⟨c, rfl, _⟩ := trod_int Tryz.underlying25 e2
  obtain ⟨s, rfl, _⟩ := trod_str Tryz.underlying9 e3
  exact ⟨n, a, b, c, s, v4, y4, rfl, rfl, e4⟩
theorem addr_field (a : Addr) (m j : Nat) (hj : 0 < j) : (a.add m).add j = ⟨(a.add m).block, (a.add m).off + j, none⟩ := by
  unfold Addr.add
  split <;> simp_all
/-- what reads as a list of terms can be walked -/
theorem rd_of {X : Type} {enc : TypeId × Value → X} {W : World} {spare : Nat → Bool} {held : Bool} (fuel : Nat) : ∀ {v : Value} {x : DataW X × List MemPlace}, DataW.trod enc Tryz.prog W 0 spare held fuel 26 [v] = some x → ∃ A n cap, v = .slice A n cap ∧ Rd W A n := by
  induction fuel using Nat.strongRecOn with
  | _ fuel ih =>
    intro v x h
    rcases trod_slice Tryz.underlying26 h with rfl | ⟨ad, len, cap, n, elems, rfl, rfl, hcap, hel⟩
    · exact ⟨none, 0, 0, rfl, .mk none 0 (fun _ => ⟨0, 0, 0, ⟨#[]⟩, none, 0, 0⟩) (by omega) (fun i h => by omega) (fun i h => by omega)⟩
    · have hc28 : Tryz.prog.cellsOf 28 = 5 := by kernel_rfl
      rw [hc28] at hel
      have key : ∀ i : Nat, ∃ r : Rw, i < len → RwAt W (some ad) i r ∧ Rd W r.A r.l := by
        intro i
        by_cases hi : i < len
        · obtain ⟨y, hy, _⟩ := mapM_at hel i i (by simp [hi])
          obtain ⟨cs, hcs, hy⟩ := Option.bind_eq_some_iff.1 hy
          obtain ⟨m, a, b, c, s, v, z, hm, rfl, hz⟩ := term_parts hy
          obtain ⟨A', l', cap', rfl, hR⟩ := ih m (by omega) hz
          have at_ : ∀ j u, [Value.int .i64 a, .int .i64 b, .int .u64 c, .string s, .slice A' l' cap'][j]? = some u → W.cell? ((ad.add (i * 5)).add j) = some u := by
            intro j u hu
            have hj : j < 5 := (List.getElem?_eq_some_iff.1 hu).1
            rw [(World.cells?_some hcs).2.2 j hj]; exact hu
          refine ⟨⟨a, b, c, s, A', l', cap'⟩, fun _ => ⟨⟨ad, rfl, ?_, ?_, ?_, ?_, ?_⟩, hR⟩⟩
          · have := at_ 0 _ rfl
            have e0 : (ad.add (i * 5)).add 0 = ad.add (i * 5) := by rw [Addr.add_add]; rfl
            rwa [e0] at this
          · rw [← addr_field ad (i * 5) 1 (by omega)]; exact at_ 1 _ rfl
          · rw [← addr_field ad (i * 5) 2 (by omega)]; exact at_ 2 _ rfl
          · rw [← addr_field ad (i * 5) 3 (by omega)]; exact at_ 3 _ rfl
          · rw [← addr_field ad (i * 5) 4 (by omega)]; exact at_ 4 _ rfl
        · exact ⟨⟨0, 0, 0, ⟨#[]⟩, none, 0, 0⟩, fun h => absurd h hi⟩
      obtain ⟨f, hf⟩ := Classical.axiomOfChoice key
      exact ⟨some ad, len, cap, rfl, .mk (some ad) len f (by have : maxLen = 9223372036854775807 := by decide +kernel
                                                             omega) (fun i hi => (hf i hi).1) (fun i hi => (hf i hi).2)⟩
end Go.Eng
