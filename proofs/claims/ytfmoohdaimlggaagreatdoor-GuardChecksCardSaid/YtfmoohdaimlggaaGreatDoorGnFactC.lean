/- A part of the proof that the evaluator in GnC, and the driver in GnZ, answer as the model does; no conditions. -/
import Derived.Test.YtfmoohdaimlggaaGreatDoorRows
import Derived.JoinedOf
namespace Go.Proofs.YtfmoohdaimlggaaGreatDoor
set_option maxRecDepth 100000
theorem kf0:(Rows.guardChecksRow.wf (OpenSpec.ofChange Rows.guardChecksSpec))=true:=by kernel_rfl
theorem kf1:(laidOutB Tryz.prog)=true:=by kernel_rfl
theorem kf2:(mapsRowed Tryz.prog)=true:=by kernel_rfl
theorem kf3:(Tryz.f3.params.all (Tryz.prog.readableRec ·))=true:=by kernel_rfl
theorem kf4:(namedTie Tryz.prog Rows.guardChecksRow.named Rows.guardChecksSpec.vars)=true:=by kernel_rfl
theorem kf5:((Rows.guardChecksRow.stops == []))=true:=by kernel_rfl
theorem kf6:((Tryz.prog.stops == []))=true:=by kernel_rfl
theorem kf7:((Rows.guardChecksRow.knobs == []))=true:=by kernel_rfl
theorem kf8:((Tryz.prog.stopKnobs == []))=true:=by kernel_rfl
theorem kf9:((Rows.guardChecksRow.inPlace == Tryz.prog.inPlace 3))=true:=by kernel_rfl
theorem kf10:((Rows.guardChecksRow.unfollowed == Tryz.prog.unfollowed 3))=true:=by kernel_rfl
theorem kf11:((Rows.guardChecksRow.recurses == Tryz.prog.recurses 3))=true:=by kernel_rfl
theorem kf12:((Rows.guardChecksRow.named == Tryz.prog.varsNamed 3))=true:=by kernel_rfl
theorem kf13:((Rows.guardChecksRow.maps == (Tryz.f3.params.toList++Rows.guardChecksSpec.plain.varTypes Tryz.prog).any (Tryz.prog.mapsRec ·)))=true:=by kernel_rfl
theorem kf14:((Rows.guardChecksRow.ifaces == (Tryz.f3.params.toList++Rows.guardChecksSpec.plain.varTypes Tryz.prog).any (Tryz.prog.ifacesRec ·)))=true:=by kernel_rfl
theorem kf15:((Rows.guardChecksRow.mapsOut == Tryz.prog.mapsAmong Tryz.f3.resultTypes.toList))=true:=by kernel_rfl
theorem kf16:((Rows.guardChecksRow.loops == (Tryz.f3.params.toList++Rows.guardChecksSpec.plain.varTypes Tryz.prog).any (Tryz.prog.loopsFrom ·)))=true:=by kernel_rfl
theorem kf17:((Rows.guardChecksRow.wideKeys == (Tryz.f3.params.toList++Rows.guardChecksSpec.plain.varTypes Tryz.prog++Tryz.f3.resultTypes.toList).any (Tryz.prog.wideKeysFrom ·)))=true:=by kernel_rfl
theorem kf18:(Rows.guardChecksSpec.vars.all (Tryz.prog.varReadable ·))=true:=by kernel_rfl
theorem kf19:(Tryz.f3.resultTypes.all (fun t=>Tryz.prog.readableRec t && decide (t<Tryz.prog.types.size)))=true:=by kernel_rfl
theorem kf20:((Rows.guardChecksRow.ifacesOut == Tryz.f3.resultTypes.toList.any (Tryz.prog.ifacesRec ·)))=true:=by kernel_rfl
theorem kf21:((Rows.guardChecksRow.loopsOut == Tryz.f3.resultTypes.toList.any (Tryz.prog.loopsFrom ·)))=true:=by kernel_rfl
theorem kf22:((Rows.guardChecksRow.plainKeys == Tryz.prog.plainKeys))=true:=by kernel_rfl
theorem kf23:(Rows.guardChecksRow.shortTexts.isNone)=true:=by kernel_rfl
theorem kf24:(Tryz.prog.stopsHeard)=true:=by kernel_rfl
theorem kf25:(Tryz.prog.mayEnter)=true:=by kernel_rfl
theorem kf26:((Rows.guardChecksRow.lifted == Tryz.prog.liftsFinal))=true:=by kernel_rfl
theorem kf27:((Tryz.prog.make == some Rows.guardChecksRow.make))=true:=by kernel_rfl
theorem kf28:((Rows.guardChecksRow.kinds == (if Rows.guardChecksRow.domain.isEmpty then [] else Tryz.f3.params.toList.map fun t=>match Tryz.prog.underlying t with | some (.int k)=>some k | _=>none)))=true:=by kernel_rfl
theorem kf29:((Rows.guardChecksRow.pinned == Rows.guardChecksRow.pinnedBy))=true:=by kernel_rfl
theorem kf30:((Rows.guardChecksRow.veiled == (Tryz.f3.params.toList++Rows.guardChecksSpec.plain.varTypes Tryz.prog++Tryz.f3.resultTypes.toList).any (Tryz.prog.veiledRec ·)))=true:=by kernel_rfl
theorem kf31:(Rows.guardChecksRow.veiledFits Tryz.prog Tryz.f3.params.toList (Tryz.f3.params.toList++Rows.guardChecksSpec.plain.varTypes Tryz.prog++Tryz.f3.resultTypes.toList))=true:=by kernel_rfl
theorem zng:joinedFacts Tryz.prog 3 Tryz.f3 Rows.guardChecksSpec Rows.guardChecksRow=true:=by
  unfold joinedFacts
  refine (Bool.and_eq_true _ _).mpr ⟨(Bool.and_eq_true _ _).mpr ⟨(Bool.and_eq_true _ _).mpr ⟨(Bool.and_eq_true _ _).mpr ⟨(Bool.and_eq_true _ _).mpr ⟨(Bool.and_eq_true _ _).mpr ⟨(Bool.and_eq_true _ _).mpr ⟨(Bool.and_eq_true _ _).mpr ⟨(Bool.and_eq_true _ _).mpr ⟨(Bool.and_eq_true _ _).mpr ⟨(Bool.and_eq_true _ _).mpr ⟨(Bool.and_eq_true _ _).mpr ⟨(Bool.and_eq_true _ _).mpr ⟨(Bool.and_eq_true _ _).mpr ⟨(Bool.and_eq_true _ _).mpr ⟨(Bool.and_eq_true _ _).mpr ⟨(Bool.and_eq_true _ _).mpr ⟨(Bool.and_eq_true _ _).mpr ⟨(Bool.and_eq_true _ _).mpr ⟨(Bool.and_eq_true _ _).mpr ⟨(Bool.and_eq_true _ _).mpr ⟨(Bool.and_eq_true _ _).mpr ⟨(Bool.and_eq_true _ _).mpr ⟨(Bool.and_eq_true _ _).mpr ⟨(Bool.and_eq_true _ _).mpr ⟨(Bool.and_eq_true _ _).mpr ⟨(Bool.and_eq_true _ _).mpr ⟨(Bool.and_eq_true _ _).mpr ⟨(Bool.and_eq_true _ _).mpr ⟨(Bool.and_eq_true _ _).mpr ⟨(Bool.and_eq_true _ _).mpr ⟨kf0,kf1⟩,kf2⟩,kf3⟩,kf4⟩,kf5⟩,kf6⟩,kf7⟩,kf8⟩,kf9⟩,kf10⟩,kf11⟩,kf12⟩,kf13⟩,kf14⟩,kf15⟩,kf16⟩,kf17⟩,kf18⟩,kf19⟩,kf20⟩,kf21⟩,kf22⟩,kf23⟩,kf24⟩,kf25⟩,kf26⟩,kf27⟩,kf28⟩,kf29⟩,kf30⟩,kf31⟩
end Go.Proofs.YtfmoohdaimlggaaGreatDoor
