
/- GuardValues returns true for every guard, facts and list of bound values and leaves them as they were: the given card GuardValuesCardSaid; no conditions beyond the given row's own. -/
import Derived.Test.YtfmoohdaimlggaaGreatDoorGnRowA
import Derived.Test.YtfmoohdaimlggaaGreatDoorGnFactA
namespace Go.Proofs.YtfmoohdaimlggaaGreatDoor
open Go.ChangeShapes Go.WideShapes Go.ChangeAt Go.RowKit
set_option maxRecDepth 100000
theorem named3 : Tryz.prog.funcNamed "saturate/saturatelaw27.GuardValues" = some 4 := by kernel_rfl
theorem wraps3 : Tryz.f4.isWrapper Tryz.prog Rows.guardValuesRow.wrapper Rows.guardValuesRow.mainSum := by unfold Func.isWrapper; first | (rw [if_pos (by decide +kernel)]; kernel_rfl) | (rw [if_neg (by decide +kernel)]; exact ⟨rfl, rfl⟩)
theorem inst3 : Tryz.f4.isInstance Tryz.prog Rows.guardValuesRow.origin Rows.guardValuesRow.targs := of_decide_eq_true (by kernel_rfl)
theorem guardValues_row : Rows.GuardValuesSaid :=
  OpenClaim.holds_of_wide 4 Tryz.f4 rfl rfl rfl rfl rfl rfl rfl ⟨rfl, rfl, rfl, rfl, rfl⟩ rfl rfl rfl rfl rfl named3 Tryz.func4 closed_facts
    inst3 wraps3 (fun os started H enc _ => guardValues_lifted os started H enc)
theorem wfText3 : Rows.guardValuesRow.wfByText (OpenSpec.ofChange Rows.guardValuesSpec) = true := by kernel_rfl
theorem mainIs3 : Tryz.prog.mainIs = some (true, "b33c5f87f66f03fcd88950e0ee61bca486aa7094f21560d0d44fc60b542af9ce".toList) := by kernel_rfl
theorem looks3 : false = Tryz.prog.looks [] := by kernel_rfl
theorem noGoes : Tryz.prog.funcs.any Func.goes = false := by kernel_rfl
theorem goes_none {P : Program} (h : P.funcs.any Func.goes = false) (g : Nat) : (P.funcs[g]?).any Func.goes = false := by
  cases e : P.funcs[g]? with
  | none => rfl
  | some fn =>
    cases hg : fn.goes with
    | false => simpa using hg
    | true =>
      have : P.funcs.any Func.goes = true := Array.any_eq_true'.2 ⟨fn, Array.mem_of_getElem? e, hg⟩
      rw [h] at this; cases this
theorem goesBy_none {P : Program} {c : OpenClaim} (hs : c.start = .entering) (h : P.funcs.any Func.goes = false) : false = c.goesBy P := by
  unfold OpenClaim.goesBy Program.goesAt Program.goesFrom
  rw [hs, Bool.or_false]
  cases P.funcNamed c.func with
  | none => rfl
  | some f =>
    show false = (((P.closure f).any fun g => (P.funcs[g]?).any Func.goes) || (P.unfollowed f && P.funcs.any Func.goes))
    rw [h, Bool.and_false, Bool.or_false]
    symm
    rw [← Bool.not_eq_true]
    intro hh
    simp only [goes_none h] at hh
    simp at hh
theorem goes3 : false = Rows.guardValuesRow.goesBy Tryz.prog := goesBy_none rfl noGoes
theorem st28 : Tryz.prog.wantsStandIn 28 = false := by kernel_rfl
theorem st40 : Tryz.prog.wantsStandIn 40 = false := by kernel_rfl
theorem st41 : Tryz.prog.wantsStandIn 41 = false := by kernel_rfl
theorem guardValues_holds : Rows.GuardValuesCardSaid :=
  Claim7.holds_tied_plain_at .later [] [.data, .data, .data] true (true, "b33c5f87f66f03fcd88950e0ee61bca486aa7094f21560d0d44fc60b542af9ce") false
    guardValues_row (fun _ h => by cases h) wfText3 (fun _ h => by cases h) guardValues_row_tie rfl ⟨rfl, rfl⟩ mainIs3 rfl
    (fun f fn hf hfn => by
      obtain rfl : f = 4 := Option.some.inj (named3.symm.trans hf) |>.symm
      obtain rfl : fn = Tryz.f4 := (Option.some.inj (Tryz.func4.symm.trans hfn)).symm
      exact ⟨looks3, fun j t ht => by
        rw [Tryz.params4] at ht
        rcases j with _ | _ | _ | j
        · have h3 : t = 28 := by simpa using ht.symm
          subst h3; exact st28
        · have h3 : t = 40 := by simpa using ht.symm
          subst h3; exact st40
        · have h3 : t = 41 := by simpa using ht.symm
          subst h3; exact st41
        · simp at ht⟩)
    goes3
#print axioms guardValues_holds
end Go.Proofs.YtfmoohdaimlggaaGreatDoor
