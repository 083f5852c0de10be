/- GuardTerms returns true for every guard and width and leaves them as they were: the given card GuardTermsCardSaid; no conditions beyond the given row's own. -/
import Derived.Test.YtaiahmkpobdafaaGreatDoorGnRow27
import Derived.Test.YtaiahmkpobdafaaGreatDoorGnFact27
namespace Go.Proofs.YtaiahmkpobdafaaGreatDoor
open Go.ChangeShapes Go.WideShapes Go.ChangeAt Go.RowKit
set_option maxRecDepth 100000
theorem named3 : Tryz.prog.funcNamed "saturate/saturatelaw27.GuardTerms" = some 3 := by kernel_rfl
theorem wraps3 : Tryz.f3.isWrapper Tryz.prog Rows.guardTermsRow.wrapper Rows.guardTermsRow.mainSum := by unfold Func.isWrapper; first | (rw [if_pos (by decide +kernel)]; kernel_rfl) | (rw [if_neg (by decide +kernel)]; exact ⟨rfl, rfl⟩)
theorem inst3 : Tryz.f3.isInstance Tryz.prog Rows.guardTermsRow.origin Rows.guardTermsRow.targs := of_decide_eq_true (by kernel_rfl)
theorem guardTerms_row : Rows.GuardTermsSaid :=
  OpenClaim.holds_of_wide 3 Tryz.f3 rfl rfl rfl rfl rfl rfl rfl ⟨rfl, rfl, rfl, rfl, rfl⟩ rfl rfl rfl rfl rfl named3 Tryz.func3 closed_facts
    inst3 wraps3 (fun os started H enc _ => guardTerms_lifted os started H enc)
theorem wfText3 : Rows.guardTermsRow.wfByText (OpenSpec.ofChange Rows.guardTermsSpec) = true := by kernel_rfl
theorem mainIs3 : Tryz.prog.mainIs = some (true, "31e421d0e207be44c915d0b28d44e1167b1162630d8aee0ff5bd6462ac6ec91d".toList) := by kernel_rfl
theorem looks3 : false = Tryz.prog.looks [] := by kernel_rfl
theorem noGoes : Tryz.prog.funcs.any Func.goes = false := by kernel_rfl
theorem goes_none {P : Program} (h : P.funcs.any Func.goes = false) (g : Nat) : (P.funcs[g]?).any Func.goes = false := by
  cases e : P.funcs[g]? with
  | none => rfl
  | some fn =>
    cases hg : fn.goes with
    | false => simpa using hg
    | true =>
      have : P.funcs.any Func.goes = true := Array.any_eq_true'.2 ⟨fn, Array.mem_of_getElem? e, hg⟩
      rw [h] at this; cases this
theorem goesBy_none {P : Program} {c : OpenClaim} (hs : c.start = .entering) (h : P.funcs.any Func.goes = false) : false = c.goesBy P := by
  unfold OpenClaim.goesBy Program.goesAt Program.goesFrom
  rw [hs, Bool.or_false]
  cases P.funcNamed c.func with
  | none => rfl
  | some f =>
    show false = (((P.closure f).any fun g => (P.funcs[g]?).any Func.goes) || (P.unfollowed f && P.funcs.any Func.goes))
    rw [h, Bool.and_false, Bool.or_false]
    symm
    rw [← Bool.not_eq_true]
    intro hh
    simp only [goes_none h] at hh
    simp at hh
theorem goes3 : false = Rows.guardTermsRow.goesBy Tryz.prog := goesBy_none rfl noGoes
theorem st28 : Tryz.prog.wantsStandIn 28 = false := by kernel_rfl
theorem st3 : Tryz.prog.wantsStandIn 3 = false := by kernel_rfl
theorem guardTerms_holds : Rows.GuardTermsCardSaid :=
  Claim7.holds_tied_plain_at .later [] [.data, .data, .data] true (true, "31e421d0e207be44c915d0b28d44e1167b1162630d8aee0ff5bd6462ac6ec91d") false
    guardTerms_row (fun _ h => by cases h) wfText3 (fun _ h => by cases h) guardTerms_row_tie rfl ⟨rfl, rfl⟩ mainIs3 rfl
    (fun f fn hf hfn => by
      obtain rfl : f = 3 := Option.some.inj (named3.symm.trans hf) |>.symm
      obtain rfl : fn = Tryz.f3 := (Option.some.inj (Tryz.func3.symm.trans hfn)).symm
      exact ⟨looks3, fun j t ht => by
        rw [Tryz.params3] at ht
        rcases j with _ | _ | j
        · have h3 : t = 28 := by simpa using ht.symm
          subst h3; exact st28
        · have h3 : t = 3 := by simpa using ht.symm
          subst h3; exact st3
        · simp at ht⟩)
    goes3
#print axioms guardTerms_holds
end Go.Proofs.YtaiahmkpobdafaaGreatDoor
