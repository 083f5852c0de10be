
/- A part of the proof that the evaluator in GnC, and the driver in GnZ, answer as the model does; no conditions. -/
import Derived.Test.YtfmoohdaimlggaaGreatDoorGnZ
import Derived.Test.YtfmoohdaimlggaaGreatDoorGnS22
namespace Go.Eng
open Go.RowKit
variable {P : Program} {w0 : World} {H : Hp} {φ : Ph} {w : World}
/-- one name more for a block -/
def Ph.name (φ : Ph) (n x l : Nat) : Ph := ⟨fun b => if b = n then some x else φ b, φ.k, φ.op, φ.fz, fun b => if b = n then l else φ.tl b⟩
theorem HR.alias {B : AB} {blk : Nat} {o : Obj} (hr : HR P w0 H φ w) (hn' : H.n ≤ 32766) (hdead : ∀ b, φ b = some blk → (hget H b).kind = 0) (hfz : φ.fz blk = none ∨ B.kind = 7) (hbase : OwnB w0 φ blk) (ho : w.heap[blk]? = some o)
    (hB : BRel P φ blk B o) : HR P w0 (hnew H B) (φ.name H.n blk B.cs.length) w ∧ EX H φ (hnew H B) (φ.name H.n blk B.cs.length) := by
  let φ' : Ph := φ.name H.n blk B.cs.length
  show HR P w0 (hnew H B) φ' w ∧ EX H φ (hnew H B) φ'
  have hlim := hr.lim
  have hfree : φ H.n = none := by
    cases h : φ H.n with
    | none => rfl
    | some x => exact absurd (hr.blk _ _ h).1 (by omega)
  have hkeep : Le φ φ' := by
    refine ⟨?_, rfl, fun _ _ h => h, fun b x hb => if_neg fun e => by rw [e, hfree] at hb; cases hb⟩
    intro b x hb
    have : b ≠ H.n := fun e => by rw [e, hfree] at hb; cases hb
    exact ⟨by show (if b = H.n then some blk else φ b) = _; rw [if_neg this]; exact hb, rfl⟩
  have hφn : φ' H.n = some blk := if_pos rfl
  have hold : ∀ b x, φ' b = some x → b ≠ H.n → φ b = some x := by
    intro b x hb hne; have hb' : (if b = H.n then some blk else φ b) = some x := hb; rwa [if_neg hne] at hb'
  have hs : (hnew H B).n = H.n + 1 := hnew_n _ _
  refine ⟨?_, ?_⟩
  · refine ⟨?_, ?_, by omega, by show H.lim ≤ _; omega, hr.below.op hkeep.op, hr.gl.mono hkeep, hr.op, ?_, ?_, hr.fo⟩
    · intro b x hb
      by_cases hbn : b = H.n
      · subst hbn
        rw [hφn] at hb; cases hb
        exact ⟨by omega, fun _ => hbase, o, ho, by rw [hget_hnew (by omega) (by omega), if_pos rfl]; exact hB.mono hkeep rfl⟩
      · obtain ⟨h1, h2, o', h3, h4⟩ := hr.blk b x (hold b x hb hbn)
        exact ⟨by omega, h2, o', h3, by rw [hget_hnew (by omega) (by omega), if_neg (by omega)]; exact h4.mono hkeep rfl⟩
    · intro b b' x hb hb' hk hk'
      by_cases hbn : b = H.n
      · by_cases hbn' : b' = H.n
        · rw [hbn, hbn']
        · rw [hbn, hφn] at hb; cases hb
          have e := hold b' _ hb' hbn'
          have l2 := (hr.blk _ _ e).1
          rw [hget_hnew (by omega) (by omega), if_neg (by omega)] at hk'
          exact absurd (hdead b' e) hk'
      · have e1 := hold b x hb hbn
        have l1 := (hr.blk _ _ e1).1
        by_cases hbn' : b' = H.n
        · rw [hbn', hφn] at hb'; cases hb'
          rw [hget_hnew (by omega) (by omega), if_neg (by omega)] at hk
          exact absurd (hdead b e1) hk
        · have e2 := hold b' x hb' hbn'
          have l2 := (hr.blk _ _ e2).1
          rw [hget_hnew (by omega) (by omega), if_neg (by omega)] at hk hk'
          exact hr.inj b b' x e1 e2 hk hk'
    · intro x C hx
      refine ⟨(hr.fz x C hx).1, fun b hb hl => ?_⟩
      by_cases hbn : b = H.n
      · subst hbn
        rw [hφn] at hb; cases hb
        rw [hget_hnew (by omega) (by omega), if_pos rfl]
        rcases hfz with e | e
        · rw [show φ.fz blk = some C from hx] at e; cases e
        · exact .inr e
      · have e1 := hold b x hb hbn
        have l1 := (hr.blk _ _ e1).1
        rw [hget_hnew (by omega) (by omega), if_neg (by omega)]
        exact (hr.fz x C hx).2 b e1 hl
    · intro b x hb hk
      by_cases hbn : b = H.n
      · subst hbn
        rw [hget_hnew (by omega) (by omega), if_pos rfl]
        exact (if_pos rfl).symm
      · have e1 := hold b x hb hbn
        have l1 := (hr.blk _ _ e1).1
        rw [hget_hnew (by omega) (by omega), if_neg (by omega)] at hk ⊢
        exact (hr.tl b x e1 hk).trans (if_neg hbn).symm
  · refine ⟨hkeep, ?_, by omega, rfl, ?_, ?_, ?_, fun _ _ h => .inl h⟩
    · intro b x hb hnone
      by_cases hbn : b = H.n
      · omega
      · rw [hold b x hb hbn] at hnone; cases hnone
    · intro b hb hb'
      rw [hget_hnew (by omega) hb', if_neg (by omega)]
    · intro b hb _ _
      rw [hget_hnew (by omega) (by omega), if_neg (by omega)]
    · intro b hb hb' hk
      rw [hget_hnew (by omega) hb', if_neg (by omega)]; exact hk
end Go.Eng
