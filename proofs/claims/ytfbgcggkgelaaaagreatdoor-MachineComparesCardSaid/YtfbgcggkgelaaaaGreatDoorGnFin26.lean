/- MachineCompares returns true for every two matches and leaves them as they were: the given card MachineComparesCardSaid; no conditions beyond the given row's own. -/
import Derived.Test.YtfbgcggkgelaaaaGreatDoorGnRow26
import Derived.Test.YtfbgcggkgelaaaaGreatDoorGnFact26
namespace Go.Proofs.YtfbgcggkgelaaaaGreatDoor
open Go.ChangeShapes Go.WideShapes Go.ChangeAt Go.RowKit
set_option maxRecDepth 100000
theorem named3 : Tryz.prog.funcNamed "saturate/saturatelaw26.MachineCompares" = some 3 := by kernel_rfl
theorem wraps3 : Tryz.f3.isWrapper Tryz.prog Rows.machineComparesRow.wrapper Rows.machineComparesRow.mainSum := by unfold Func.isWrapper; first | (rw [if_pos (by decide +kernel)]; kernel_rfl) | (rw [if_neg (by decide +kernel)]; exact ⟨rfl, rfl⟩)
theorem inst3 : Tryz.f3.isInstance Tryz.prog Rows.machineComparesRow.origin Rows.machineComparesRow.targs := of_decide_eq_true (by kernel_rfl)
theorem machineCompares_row : Rows.MachineComparesSaid :=
  OpenClaim.holds_of_wide 3 Tryz.f3 rfl rfl rfl rfl rfl rfl rfl ⟨rfl, rfl, rfl, rfl, rfl⟩ rfl rfl rfl rfl rfl named3 Tryz.func3 closed_facts
    inst3 wraps3 (fun os started H enc _ => machineCompares_lifted os started H enc)
theorem wfText3 : Rows.machineComparesRow.wfByText (OpenSpec.ofChange Rows.machineComparesSpec) = true := by kernel_rfl
theorem mainIs3 : Tryz.prog.mainIs = some (true, "51fd74b2af59c861be6743f65385bae8f06eb7410decda318923d7fabcaa38e0".toList) := by kernel_rfl
theorem looks3 : false = Tryz.prog.looks [] := by kernel_rfl
theorem noGoes : Tryz.prog.funcs.any Func.goes = false := by kernel_rfl
theorem goes_none {P : Program} (h : P.funcs.any Func.goes = false) (g : Nat) : (P.funcs[g]?).any Func.goes = false := by
  cases e : P.funcs[g]? with
  | none => rfl
  | some fn =>
    cases hg : fn.goes with
    | false => simpa using hg
    | true =>
      have : P.funcs.any Func.goes = true := Array.any_eq_true'.2 ⟨fn, Array.mem_of_getElem? e, hg⟩
      rw [h] at this; cases this
theorem goesBy_none {P : Program} {c : OpenClaim} (hs : c.start = .entering) (h : P.funcs.any Func.goes = false) : false = c.goesBy P := by
  unfold OpenClaim.goesBy Program.goesAt Program.goesFrom
  rw [hs, Bool.or_false]
  cases P.funcNamed c.func with
  | none => rfl
  | some f =>
    show false = (((P.closure f).any fun g => (P.funcs[g]?).any Func.goes) || (P.unfollowed f && P.funcs.any Func.goes))
    rw [h, Bool.and_false, Bool.or_false]
    symm
    rw [← Bool.not_eq_true]
    intro hh
    simp only [goes_none h] at hh
    simp at hh
theorem goes3 : false = Rows.machineComparesRow.goesBy Tryz.prog := goesBy_none rfl noGoes
theorem st26 : Tryz.prog.wantsStandIn 26 = false := by kernel_rfl
theorem machineCompares_holds : Rows.MachineComparesCardSaid :=
  Claim7.holds_tied_plain_at .later [] [.data, .data, .data] true (true, "51fd74b2af59c861be6743f65385bae8f06eb7410decda318923d7fabcaa38e0") false
    machineCompares_row (fun _ h => by cases h) wfText3 (fun _ h => by cases h) machineCompares_row_tie rfl ⟨rfl, rfl⟩ mainIs3 rfl
    (fun f fn hf hfn => by
      obtain rfl : f = 3 := Option.some.inj (named3.symm.trans hf) |>.symm
      obtain rfl : fn = Tryz.f3 := (Option.some.inj (Tryz.func3.symm.trans hfn)).symm
      exact ⟨looks3, fun j t ht => by
        rw [Tryz.params3] at ht
        rcases j with _ | _ | j
        · have h3 : t = 26 := by simpa using ht.symm
          subst h3; exact st26
        · have h3 : t = 26 := by simpa using ht.symm
          subst h3; exact st26
        · simp at ht⟩)
    goes3
#print axioms machineCompares_holds
end Go.Proofs.YtfbgcggkgelaaaaGreatDoor
