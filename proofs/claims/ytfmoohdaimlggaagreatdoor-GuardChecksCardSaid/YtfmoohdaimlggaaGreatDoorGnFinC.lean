/- GuardChecks returns true for every guard, facts and list of bound values and leaves them as they were: the given card GuardChecksCardSaid; no conditions beyond the given row's own. -/
import Derived.Test.YtfmoohdaimlggaaGreatDoorGnRowC
import Derived.Test.YtfmoohdaimlggaaGreatDoorGnFactC
namespace Go.Proofs.YtfmoohdaimlggaaGreatDoor
open Go.ChangeShapes Go.WideShapes Go.ChangeAt Go.RowKit
set_option maxRecDepth 100000
theorem named3:Tryz.prog.funcNamed "saturate/saturatelaw27.GuardChecks"=some 3:=by kernel_rfl
theorem zy3:Tryz.f3.isWrapper Tryz.prog Rows.guardChecksRow.wrapper Rows.guardChecksRow.mainSum:=by unfold Func.isWrapper;first | (rw[if_pos (by decide +kernel)];kernel_rfl) | (rw[if_neg (by decide +kernel)];exact⟨rfl,rfl⟩)
theorem z0R:Tryz.f3.isInstance Tryz.prog Rows.guardChecksRow.origin Rows.guardChecksRow.targs:=of_decide_eq_true (by kernel_rfl)
theorem zkc:Rows.GuardChecksSaid :=
  OpenClaim.holds_of_wide 3 Tryz.f3 rfl rfl rfl rfl rfl rfl rfl ⟨rfl,rfl,rfl,rfl,rfl⟩ rfl rfl rfl rfl rfl named3 Tryz.func3 zng
    z0R zy3 (fun os started H enc _=>zi2 os started H enc)
theorem zvP:Rows.guardChecksRow.wfByText (OpenSpec.ofChange Rows.guardChecksSpec)=true:=by kernel_rfl
theorem zvQ:Tryz.prog.mainIs=some (true,"b33c5f87f66f03fcd88950e0ee61bca486aa7094f21560d0d44fc60b542af9ce".toList):=by kernel_rfl
theorem zy4:false=Tryz.prog.looks []:=by kernel_rfl
theorem zy5:Tryz.prog.funcs.any Func.goes=false:=by kernel_rfl
theorem zr2{P:Program}(h:P.funcs.any Func.goes=false)(g:Nat):(P.funcs[g]?).any Func.goes=false:=by
  cases e:P.funcs[g]? with
  | none=>rfl
  | some fn =>
    cases hg:fn.goes with
    | false=>simpa using hg
    | true =>
      have:P.funcs.any Func.goes=true:=Array.any_eq_true'.2 ⟨fn,Array.mem_of_getElem? e,hg⟩
      rw[h] at this;cases this
theorem zoo{P:Program}{c:OpenClaim}(hs:c.start=.entering)(h:P.funcs.any Func.goes=false):false=c.goesBy P:=by
  unfold OpenClaim.goesBy Program.goesAt Program.goesFrom
  rw[hs,Bool.or_false]
  cases P.funcNamed c.func with
  | none=>rfl
  | some f =>
    show false=(((P.closure f).any fun g=>(P.funcs[g]?).any Func.goes) || (P.unfollowed f && P.funcs.any Func.goes))
    rw[h,Bool.and_false,Bool.or_false]
    symm
    rw[← Bool.not_eq_true]
    intro hh
    simp only[zr2 h] at hh
    simp at hh
theorem z0S:false=Rows.guardChecksRow.goesBy Tryz.prog:=zoo rfl zy5
theorem st28:Tryz.prog.wantsStandIn 28=false:=by kernel_rfl
theorem st29:Tryz.prog.wantsStandIn 29=false:=by kernel_rfl
theorem guardChecks_holds:Rows.GuardChecksCardSaid :=
  Claim7.holds_tied_plain_at .later [] [.data,.data,.data] true (true,"b33c5f87f66f03fcd88950e0ee61bca486aa7094f21560d0d44fc60b542af9ce") false
    zkc (fun _ h=>by cases h) zvP (fun _ h=>by cases h) guardChecks_row_tie rfl ⟨rfl,rfl⟩ zvQ rfl
    (fun f fn hf hfn=>by
      obtain rfl:f=3:=Option.some.inj (named3.symm.trans hf) |>.symm
      obtain rfl:fn=Tryz.f3:=(Option.some.inj (Tryz.func3.symm.trans hfn)).symm
      exact⟨zy4,fun j t ht=>by
        rw[Tryz.params3] at ht
        rcases j with _ | _ | _ | j
        · have h3:t=28:=by simpa using ht.symm
          subst h3;exact st28
        · have h3:t=29:=by simpa using ht.symm
          subst h3;exact st29
        · have h3:t=29:=by simpa using ht.symm
          subst h3;exact st29
        · simp at ht⟩)
    z0S
#print axioms guardChecks_holds
end Go.Proofs.YtfmoohdaimlggaaGreatDoor
