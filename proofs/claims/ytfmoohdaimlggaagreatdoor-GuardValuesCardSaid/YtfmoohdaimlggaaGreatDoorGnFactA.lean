
/- A part of the proof that the evaluator in GnC, and the driver in GnZ, answer as the model does; no conditions. -/
import Derived.Test.YtfmoohdaimlggaaGreatDoorRows
import Derived.JoinedOf
namespace Go.Proofs.YtfmoohdaimlggaaGreatDoor
set_option maxRecDepth 100000
theorem kf0 : (Rows.guardValuesRow.wf (OpenSpec.ofChange Rows.guardValuesSpec)) = true := by kernel_rfl
theorem kf1 : (laidOutB Tryz.prog) = true := by kernel_rfl
theorem kf2 : (mapsRowed Tryz.prog) = true := by kernel_rfl
theorem kf3 : (Tryz.f4.params.all (Tryz.prog.readableRec ·)) = true := by kernel_rfl
theorem kf4 : (namedTie Tryz.prog Rows.guardValuesRow.named Rows.guardValuesSpec.vars) = true := by kernel_rfl
theorem kf5 : ((Rows.guardValuesRow.stops == [])) = true := by kernel_rfl
theorem kf6 : ((Tryz.prog.stops == [])) = true := by kernel_rfl
theorem kf7 : ((Rows.guardValuesRow.knobs == [])) = true := by kernel_rfl
theorem kf8 : ((Tryz.prog.stopKnobs == [])) = true := by kernel_rfl
theorem kf9 : ((Rows.guardValuesRow.inPlace == Tryz.prog.inPlace 4)) = true := by kernel_rfl
theorem kf10 : ((Rows.guardValuesRow.unfollowed == Tryz.prog.unfollowed 4)) = true := by kernel_rfl
theorem kf11 : ((Rows.guardValuesRow.recurses == Tryz.prog.recurses 4)) = true := by kernel_rfl
theorem kf12 : ((Rows.guardValuesRow.named == Tryz.prog.varsNamed 4)) = true := by kernel_rfl
theorem kf13 : ((Rows.guardValuesRow.maps == (Tryz.f4.params.toList ++ Rows.guardValuesSpec.plain.varTypes Tryz.prog).any (Tryz.prog.mapsRec ·))) = true := by kernel_rfl
theorem kf14 : ((Rows.guardValuesRow.ifaces == (Tryz.f4.params.toList ++ Rows.guardValuesSpec.plain.varTypes Tryz.prog).any (Tryz.prog.ifacesRec ·))) = true := by kernel_rfl
theorem kf15 : ((Rows.guardValuesRow.mapsOut == Tryz.prog.mapsAmong Tryz.f4.resultTypes.toList)) = true := by kernel_rfl
theorem kf16 : ((Rows.guardValuesRow.loops == (Tryz.f4.params.toList ++ Rows.guardValuesSpec.plain.varTypes Tryz.prog).any (Tryz.prog.loopsFrom ·))) = true := by kernel_rfl
theorem kf17 : ((Rows.guardValuesRow.wideKeys == (Tryz.f4.params.toList ++ Rows.guardValuesSpec.plain.varTypes Tryz.prog ++ Tryz.f4.resultTypes.toList).any (Tryz.prog.wideKeysFrom ·))) = true := by kernel_rfl
theorem kf18 : (Rows.guardValuesSpec.vars.all (Tryz.prog.varReadable ·)) = true := by kernel_rfl
theorem kf19 : (Tryz.f4.resultTypes.all (fun t => Tryz.prog.readableRec t && decide (t < Tryz.prog.types.size))) = true := by kernel_rfl
theorem kf20 : ((Rows.guardValuesRow.ifacesOut == Tryz.f4.resultTypes.toList.any (Tryz.prog.ifacesRec ·))) = true := by kernel_rfl
theorem kf21 : ((Rows.guardValuesRow.loopsOut == Tryz.f4.resultTypes.toList.any (Tryz.prog.loopsFrom ·))) = true := by kernel_rfl
theorem kf22 : ((Rows.guardValuesRow.plainKeys == Tryz.prog.plainKeys)) = true := by kernel_rfl
theorem kf23 : (Rows.guardValuesRow.shortTexts.isNone) = true := by kernel_rfl
theorem kf24 : (Tryz.prog.stopsHeard) = true := by kernel_rfl
theorem kf25 : (Tryz.prog.mayEnter) = true := by kernel_rfl
theorem kf26 : ((Rows.guardValuesRow.lifted == Tryz.prog.liftsFinal)) = true := by kernel_rfl
theorem kf27 : ((Tryz.prog.make == some Rows.guardValuesRow.make)) = true := by kernel_rfl
theorem kf28 : ((Rows.guardValuesRow.kinds == (if Rows.guardValuesRow.domain.isEmpty then [] else Tryz.f4.params.toList.map fun t => match Tryz.prog.underlying t with | some (.int k) => some k | _ => none))) = true := by kernel_rfl
theorem kf29 : ((Rows.guardValuesRow.pinned == Rows.guardValuesRow.pinnedBy)) = true := by kernel_rfl
theorem kf30 : ((Rows.guardValuesRow.veiled == (Tryz.f4.params.toList ++ Rows.guardValuesSpec.plain.varTypes Tryz.prog ++ Tryz.f4.resultTypes.toList).any (Tryz.prog.veiledRec ·))) = true := by kernel_rfl
theorem kf31 : (Rows.guardValuesRow.veiledFits Tryz.prog Tryz.f4.params.toList (Tryz.f4.params.toList ++ Rows.guardValuesSpec.plain.varTypes Tryz.prog ++ Tryz.f4.resultTypes.toList)) = true := by kernel_rfl
theorem closed_facts : joinedFacts Tryz.prog 4 Tryz.f4 Rows.guardValuesSpec Rows.guardValuesRow = true := by
  unfold joinedFacts
  refine (Bool.and_eq_true _ _).mpr ⟨(Bool.and_eq_true _ _).mpr ⟨(Bool.and_eq_true _ _).mpr ⟨(Bool.and_eq_true _ _).mpr ⟨(Bool.and_eq_true _ _).mpr ⟨(Bool.and_eq_true _ _).mpr ⟨(Bool.and_eq_true _ _).mpr ⟨(Bool.and_eq_true _ _).mpr ⟨(Bool.and_eq_true _ _).mpr ⟨(Bool.and_eq_true _ _).mpr ⟨(Bool.and_eq_true _ _).mpr ⟨(Bool.and_eq_true _ _).mpr ⟨(Bool.and_eq_true _ _).mpr ⟨(Bool.and_eq_true _ _).mpr ⟨(Bool.and_eq_true _ _).mpr ⟨(Bool.and_eq_true _ _).mpr ⟨(Bool.and_eq_true _ _).mpr ⟨(Bool.and_eq_true _ _).mpr ⟨(Bool.and_eq_true _ _).mpr ⟨(Bool.and_eq_true _ _).mpr ⟨(Bool.and_eq_true _ _).mpr ⟨(Bool.and_eq_true _ _).mpr ⟨(Bool.and_eq_true _ _).mpr ⟨(Bool.and_eq_true _ _).mpr ⟨(Bool.and_eq_true _ _).mpr ⟨(Bool.and_eq_true _ _).mpr ⟨(Bool.and_eq_true _ _).mpr ⟨(Bool.and_eq_true _ _).mpr ⟨(Bool.and_eq_true _ _).mpr ⟨(Bool.and_eq_true _ _).mpr ⟨(Bool.and_eq_true _ _).mpr ⟨kf0, kf1⟩, kf2⟩, kf3⟩, kf4⟩, kf5⟩, kf6⟩, kf7⟩, kf8⟩, kf9⟩, kf10⟩, kf11⟩, kf12⟩, kf13⟩, kf14⟩, kf15⟩, kf16⟩, kf17⟩, kf18⟩, kf19⟩, kf20⟩, kf21⟩, kf22⟩, kf23⟩, kf24⟩, kf25⟩, kf26⟩, kf27⟩, kf28⟩, kf29⟩, kf30⟩, kf31⟩
end Go.Proofs.YtfmoohdaimlggaaGreatDoor
