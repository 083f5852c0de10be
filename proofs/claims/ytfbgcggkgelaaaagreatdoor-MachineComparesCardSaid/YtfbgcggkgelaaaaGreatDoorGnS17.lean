/- A part of the proof that the evaluator in GnC, and the driver in GnZ, answer as the model does; no conditions. -/
import Derived.Test.YtfbgcggkgelaaaaGreatDoorGnS16
namespace Go.Eng
open Go.RowKit
variable {P : Program} {w0 : World} {H : Hp} {φ : Ph} {c : Kont} {w : World} {ρA : Operand → AV} {ρ : Operand → Value} {o : Oper}
/-- **every operation but the calls of values** -/
theorem opOf_ok (hρ : ∀ x, VR φ (ρA x) (ρ x)) (h0 : (ρA zeroO).p = 0) (hr : HR P w0 H φ w) (hok : AllOk ((opOf P o).ev ρA H c)) : Out P w0 (ExecY P ρ o w) H φ ((opOf P o).ev ρA H c) c := by
  cases ho : o.op
  case move x => simp only [opOf, ho]; exact op_move hρ hr (.inl ho)
  case assign x => simp only [opOf, ho]; exact op_move hρ hr (.inr ho)
  case pick => exact op_pick hρ hr ho hok
  case alloc => exact op_alloc hr ho hok
  case box => exact op_box hρ hr ho hok
  case build => exact op_build hρ hr ho hok
  case buildSlice => exact op_buildSlice hρ hr ho hok
  case load => exact op_load hρ hr ho hok
  case store => exact op_store hρ hr ho hok
  case nilCheck => exact op_nil hρ hr ho hok
  case binOp => exact op_bin hρ hr ho hok
  case unOp => exact op_un hρ hr ho hok
  case convert => exact op_conv hρ hr ho hok
  case makeFunc => exact op_makeFunc hρ hr ho hok
  case makeMap => exact op_makeMap hr ho hok
  case makeSlice => exact op_makeSlice hρ hr ho hok
  case slice => exact op_slice hρ h0 hr ho hok
  case fieldAddr => exact op_fieldAddr hρ hr ho hok
  case field => exact op_field hρ hr ho hok
  case indexAddr => exact op_indexAddr hρ hr ho hok
  case index => exact op_index hρ hr ho hok
  case lookup => exact op_lookup hρ hr ho hok
  case mapUpdate => exact op_mapUpdate hρ hr (.inl ho) hok
  case insert => exact op_mapUpdate hρ hr (.inr ho) hok
  case mapEntry => exact op_mapEntry hρ hr ho hok
  case entryStore => exact op_entryStore hρ hr ho hok
  case extract => exact op_extract hρ hr ho hok
  case range => exact op_range hρ hr ho hok
  case next => exact op_next hρ hr ho hok
  case entry => exact op_entry hρ hr ho hok
  case call cl =>
    cases hb : cl.callee with
    | value f => simp only [opOf, ho, hb] at hok; exact (failR_bad hok).elim
    | invoke a b => simp only [opOf, ho, hb] at hok; exact (failR_bad hok).elim
    | builtin b =>
      have hk := hok
      simp only [opOf, ho, hb] at hk
      unfold builtinOp at hk
      split at hk
      · exact op_append hρ hr ho hb (by assumption) hok
      · exact op_len hρ hr ho hb (by assumption) hok
      · exact op_minmax hρ hr false ho hb (by assumption) hok
      · exact op_minmax hρ hr true ho hb (by assumption) hok
      · exact op_delete hρ hr ho hb (by assumption) hok
      · exact op_min3 hρ hr ho hb (by assumption) hok
      · exact (failR_bad hk).elim
  all_goals (simp only [opOf, ho] at hok; exact (failR_bad hok).elim)
end Go.Eng
