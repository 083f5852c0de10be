/- A part of the proof that the evaluator in GnC, and the driver in GnZ, answer as the model does; no conditions. -/
import Derived.Test.YtaiahmkpobdafaaGreatDoorRows
import Derived.JoinedOf
namespace Go.Proofs.YtaiahmkpobdafaaGreatDoor
set_option maxRecDepth 100000
theorem kf0 : (Rows.guardTermsRow.wf (OpenSpec.ofChange Rows.guardTermsSpec)) = true := by kernel_rfl
theorem kf1 : (laidOutB Tryz.prog) = true := by kernel_rfl
theorem kf2 : (mapsRowed Tryz.prog) = true := by kernel_rfl
theorem kf3 : (Tryz.f3.params.all (Tryz.prog.readableRec ·)) = true := by kernel_rfl
theorem kf4 : (namedTie Tryz.prog Rows.guardTermsRow.named Rows.guardTermsSpec.vars) = true := by kernel_rfl
theorem kf5 : ((Rows.guardTermsRow.stops == [])) = true := by kernel_rfl
theorem kf6 : ((Tryz.prog.stops == [])) = true := by kernel_rfl
theorem kf7 : ((Rows.guardTermsRow.knobs == [])) = true := by kernel_rfl
theorem kf8 : ((Tryz.prog.stopKnobs == [])) = true := by kernel_rfl
theorem kf9 : ((Rows.guardTermsRow.inPlace == Tryz.prog.inPlace 3)) = true := by kernel_rfl
theorem kf10 : ((Rows.guardTermsRow.unfollowed == Tryz.prog.unfollowed 3)) = true := by kernel_rfl
theorem kf11 : ((Rows.guardTermsRow.recurses == Tryz.prog.recurses 3)) = true := by kernel_rfl
theorem kf12 : ((Rows.guardTermsRow.named == Tryz.prog.varsNamed 3)) = true := by kernel_rfl
theorem kf13 : ((Rows.guardTermsRow.maps == (Tryz.f3.params.toList ++ Rows.guardTermsSpec.plain.varTypes Tryz.prog).any (Tryz.prog.mapsRec ·))) = true := by kernel_rfl
theorem kf14 : ((Rows.guardTermsRow.ifaces == (Tryz.f3.params.toList ++ Rows.guardTermsSpec.plain.varTypes Tryz.prog).any (Tryz.prog.ifacesRec ·))) = true := by kernel_rfl
theorem kf15 : ((Rows.guardTermsRow.mapsOut == Tryz.prog.mapsAmong Tryz.f3.resultTypes.toList)) = true := by kernel_rfl
theorem kf16 : ((Rows.guardTermsRow.loops == (Tryz.f3.params.toList ++ Rows.guardTermsSpec.plain.varTypes Tryz.prog).any (Tryz.prog.loopsFrom ·))) = true := by kernel_rfl
theorem kf17 : ((Rows.guardTermsRow.wideKeys == (Tryz.f3.params.toList ++ Rows.guardTermsSpec.plain.varTypes Tryz.prog ++ Tryz.f3.resultTypes.toList).any (Tryz.prog.wideKeysFrom ·))) = true := by kernel_rfl
theorem kf18 : (Rows.guardTermsSpec.vars.all (Tryz.prog.varReadable ·)) = true := by kernel_rfl
theorem kf19 : (Tryz.f3.resultTypes.all (fun t => Tryz.prog.readableRec t && decide (t < Tryz.prog.types.size))) = true := by kernel_rfl
theorem kf20 : ((Rows.guardTermsRow.ifacesOut == Tryz.f3.resultTypes.toList.any (Tryz.prog.ifacesRec ·))) = true := by kernel_rfl
theorem kf21 : ((Rows.guardTermsRow.loopsOut == Tryz.f3.resultTypes.toList.any (Tryz.prog.loopsFrom ·))) = true := by kernel_rfl
theorem kf22 : ((Rows.guardTermsRow.plainKeys == Tryz.prog.plainKeys)) = true := by kernel_rfl
theorem kf23 : (Rows.guardTermsRow.shortTexts.isNone) = true := by kernel_rfl
theorem kf24 : (Tryz.prog.stopsHeard) = true := by kernel_rfl
theorem kf25 : (Tryz.prog.mayEnter) = true := by kernel_rfl
theorem kf26 : ((Rows.guardTermsRow.lifted == Tryz.prog.liftsFinal)) = true := by kernel_rfl
theorem kf27 : ((Tryz.prog.make == some Rows.guardTermsRow.make)) = true := by kernel_rfl
theorem kf28 : ((Rows.guardTermsRow.kinds == (if Rows.guardTermsRow.domain.isEmpty then [] else Tryz.f3.params.toList.map fun t => match Tryz.prog.underlying t with | some (.int k) => some k | _ => none))) = true := by kernel_rfl
theorem kf29 : ((Rows.guardTermsRow.pinned == Rows.guardTermsRow.pinnedBy)) = true := by kernel_rfl
theorem kf30 : ((Rows.guardTermsRow.veiled == (Tryz.f3.params.toList ++ Rows.guardTermsSpec.plain.varTypes Tryz.prog ++ Tryz.f3.resultTypes.toList).any (Tryz.prog.veiledRec ·))) = true := by kernel_rfl
theorem kf31 : (Rows.guardTermsRow.veiledFits Tryz.prog Tryz.f3.params.toList (Tryz.f3.params.toList ++ Rows.guardTermsSpec.plain.varTypes Tryz.prog ++ Tryz.f3.resultTypes.toList)) = true := by kernel_rfl
theorem closed_facts : joinedFacts Tryz.prog 3 Tryz.f3 Rows.guardTermsSpec Rows.guardTermsRow = true := by
  unfold joinedFacts
  refine (Bool.and_eq_true _ _).mpr ⟨(Bool.and_eq_true _ _).mpr ⟨(Bool.and_eq_true _ _).mpr ⟨(Bool.and_eq_true _ _).mpr ⟨(Bool.and_eq_true _ _).mpr ⟨(Bool.and_eq_true _ _).mpr ⟨(Bool.and_eq_true _ _).mpr ⟨(Bool.and_eq_true _ _).mpr ⟨(Bool.and_eq_true _ _).mpr ⟨(Bool.and_eq_true _ _).mpr ⟨(Bool.and_eq_true _ _).mpr ⟨(Bool.and_eq_true _ _).mpr ⟨(Bool.and_eq_true _ _).mpr ⟨(Bool.and_eq_true _ _).mpr ⟨(Bool.and_eq_true _ _).mpr ⟨(Bool.and_eq_true _ _).mpr ⟨(Bool.and_eq_true _ _).mpr ⟨(Bool.and_eq_true _ _).mpr ⟨(Bool.and_eq_true _ _).mpr ⟨(Bool.and_eq_true _ _).mpr ⟨(Bool.and_eq_true _ _).mpr ⟨(Bool.and_eq_true _ _).mpr ⟨(Bool.and_eq_true _ _).mpr ⟨(Bool.and_eq_true _ _).mpr ⟨(Bool.and_eq_true _ _).mpr ⟨(Bool.and_eq_true _ _).mpr ⟨(Bool.and_eq_true _ _).mpr ⟨(Bool.and_eq_true _ _).mpr ⟨(Bool.and_eq_true _ _).mpr ⟨(Bool.and_eq_true _ _).mpr ⟨(Bool.and_eq_true _ _).mpr ⟨kf0, kf1⟩, kf2⟩, kf3⟩, kf4⟩, kf5⟩, kf6⟩, kf7⟩, kf8⟩, kf9⟩, kf10⟩, kf11⟩, kf12⟩, kf13⟩, kf14⟩, kf15⟩, kf16⟩, kf17⟩, kf18⟩, kf19⟩, kf20⟩, kf21⟩, kf22⟩, kf23⟩, kf24⟩, kf25⟩, kf26⟩, kf27⟩, kf28⟩, kf29⟩, kf30⟩, kf31⟩
end Go.Proofs.YtaiahmkpobdafaaGreatDoor
