/- ExplainNil returns true for every three arguments and leaves them as they were: the given card ExplainNilCardSaid; no conditions beyond the given row's own. -/
import Derived.Test.YtcnlhhnmfomibaaGreatDoorEngEv37
import Derived.Test.YtcnlhhnmfomibaaGreatDoorEngLd37
import Derived.Test.YtcnlhhnmfomibaaGreatDoorRows
import Derived.Test.YtcnlhhnmfomibaaGreatDoorCards
import Derived.Test.YtcnlhhnmfomibaaGreatDoorTie
import Derived.ProofKit
import Derived.ChangeSame
import Derived.ChangeVars
import Derived.JoinedOf
import Derived.LaidLaws
import Derived.Lay
import Derived.Carry
import Derived.SevenTiedAt
namespace Go.Proofs.YtcnlhhnmfomibaaGreatDoor
open Go.ChangeShapes Go.WideShapes Go.ChangeAt Go.RowKit

theorem Tryz.own : ownKnob Tryz.prog.godebug = none := by kernel_rfl
theorem Tryz.laidOut : laidOutB Tryz.prog = true := by kernel_rfl
theorem agg_of {v : Value} {l : List Value} (h : v.cells.toList = l) (hl : 2 ≤ l.length) : v = .agg l.toArray := by
  cases v <;> first | (simp only [Value.cells] at h; subst h; simp at hl; done) | (simp only [Value.cells] at h; subst h; simp)
set_option maxRecDepth 100000 in
theorem ints_of {X : Type} {enc : TypeId × Value → X} {W : World} {spare : Nat → Bool} {held : Bool} {fuel : Nat} {cs : List Value} {x : DataW X × List MemPlace} (h : DataW.trod enc Tryz.prog W 0 spare held fuel 23 cs = some x) : ∃ a b, cs = [.int .i64 a, .int .i64 b] := by
  obtain ⟨n, xs, rfl, hl, hm, _⟩ := Eng.trod_array Tryz.underlying23 h
  have c23 : Tryz.prog.cellsOf 23 = 2 := by kernel_rfl
  have c3 : Tryz.prog.cellsOf 3 = 1 := by kernel_rfl
  rw [c23] at hl
  rw [c3] at hm
  obtain ⟨v0, v1, rfl⟩ : ∃ v0 v1, cs = [v0, v1] := by
    match cs, hl with
    | [v0, v1], _ => exact ⟨v0, v1, rfl⟩
  obtain ⟨y0, e0, _⟩ := Eng.mapM_at hm 0 0 rfl
  obtain ⟨y1, e1, _⟩ := Eng.mapM_at hm 1 1 rfl
  simp only [Nat.zero_mul, Nat.one_mul, List.drop_zero, List.drop_succ_cons, List.take_succ_cons, List.take_zero] at e0 e1
  obtain ⟨a, ha, _⟩ := Eng.trod_int (v := v0) Tryz.underlying3 e0
  obtain ⟨b, hb, _⟩ := Eng.trod_int (v := v1) Tryz.underlying3 e1
  exact ⟨a, b, by rw [ha, hb]⟩
theorem sl_one {A : Option Addr} {n c : Nat} : (Value.slice A n c).oneCell' = true ∧ (Value.slice A n c).cells = #[Value.slice A n c] := ⟨rfl, rfl⟩
theorem calls_true {X : Type} {enc : TypeId × Value → X} {W : World} (hW : Eng.LaidOk W) {spare : Nat → Bool} {held : Bool} {f0 f1 f2 : Nat} {v0 v1 v2 : Value} {x0 x1 x2 : DataW X × List MemPlace}
    (h0 : DataW.trod enc Tryz.prog W 0 spare held f0 22 v0.cells.toList = some x0) (h1 : DataW.trod enc Tryz.prog W 0 spare held f1 23 v1.cells.toList = some x1) (h2 : DataW.trod enc Tryz.prog W 0 spare held f2 28 v2.cells.toList = some x2)
    (g0 : v0.cells.toList = [v0]) : Calls Tryz.prog 3 #[v0, v1, v2] W fun e W' => e = .returned (.bool true) ∧ Below W.heap.size W W' := by
  rw [g0] at h0
  obtain ⟨a, b, e1⟩ := ints_of h1
  obtain ⟨n, p, q, r, s, v, y, _, e2, hy⟩ := Eng.term_parts h2
  have w1 := agg_of e1 (by simp)
  have w2 := agg_of e2 (by simp)
  subst w1 w2
  have k0 : v0.oneCell' = true ∧ v0.cells = #[v0] := by
    rcases Eng.trod_slice Tryz.underlying22 h0 with rfl | ⟨_, _, _, _, _, _, rfl, _⟩ <;> exact ⟨rfl, rfl⟩
  have k4 : v.oneCell' = true ∧ v.cells = #[v] := by
    rcases Eng.trod_slice Tryz.underlying26 hy with rfl | ⟨_, _, _, _, _, _, rfl, _⟩ <;> exact ⟨rfl, rfl⟩
  have vi : ∀ n : Int, Eng.VR (Eng.ph0 W) (Eng.opq 5) (.int .i64 n) := fun n => .opq 5 0 0 0 [] _ ⟨fun h => by omega, fun _ _ => ⟨n, rfl⟩, fun h => by omega, fun h => by omega⟩ rfl rfl
  have vu : ∀ n : Int, Eng.VR (Eng.ph0 W) (Eng.opq 9) (.int .u64 n) := fun n => .opq 9 0 0 0 [] _ ⟨fun h => by omega, fun _ _ => ⟨n, rfl⟩, fun h => by omega, fun h => by omega⟩ rfl rfl
  have vs : Eng.VR (Eng.ph0 W) (Eng.opq 10) (.string s) := .opq 10 0 0 0 [] _ ⟨fun h => by omega, fun _ h => by omega, fun _ => ⟨s, rfl⟩, fun h => by omega⟩ rfl rfl
  have v4 : Eng.VR (Eng.ph0 W) (Eng.opq 58) v := .opq 58 0 0 0 [] _ ⟨fun h => by omega, fun _ h => by omega, fun h => by omega, fun _ => ⟨26, rfl, X, enc, spare, held, _, _, hy⟩⟩ k4.1 k4.2
  have vr : Eng.VR (Eng.ph0 W) (Eng.opq 54) v0 := .opq 54 0 0 0 [] _ ⟨fun h => by omega, fun _ h => by omega, fun h => by omega, fun _ => ⟨22, rfl, X, enc, spare, held, _, _, h0⟩⟩ k0.1 k0.2
  refine Eng.calls_of_eval (vals := [v0, _, _]) (Eng.ntB_ok Eng.eval_lives) hW (.cons vr (.cons (.agg 0 0 0 0 _ _ (.cons (vi a) (.cons (vi b) .nil)) ?_) (.cons (.agg 0 0 0 0 _ _ (.cons (vi p) (.cons (vi q) (.cons (vu r) (.cons vs (.cons v4 .nil))))) ?_) .nil))) Eng.eval_main
  · intro c hc; simp at hc; subst hc; rfl
  · intro c hc; simp at hc; rcases hc with rfl | rfl | rfl | rfl <;> rfl
noncomputable def laidW (os : Os) : World := World.laidAll Tryz.prog os Rows.explainNilRow.laid
theorem laidW_met (os : Os) (args : Array Value) : laidMetH Tryz.prog Rows.explainNilRow.laid ((laidW os).forCall (fun _ _ => 0) ⟨#[], args, []⟩).memory := by
  have h : laidMet Tryz.prog Rows.explainNilRow.laid ((laidW os).forCall (fun _ _ => 0) ⟨#[], args, []⟩).memory := laidMet_laidAll _ (by kernel_rfl) (by kernel_rfl)
  exact h
noncomputable def wit : Array Value := #[.slice none 0 0, .agg #[.int .i64 0, .int .i64 0], .agg #[.int .i64 0, .int .i64 0, .int .u64 0, .string ⟨#[]⟩, .slice none 0 0]]
set_option maxRecDepth 100000 in
theorem explainNil_lifted (os : Os) (started : os.Started) (H : Type) (enc : TypeId × Value → H) :
    ReturnsInHanded {} Tryz.checked os 3 .any (fun w args => (Rows.explainNilSpec.pre enc Tryz.prog Tryz.f3 [] false w args ∧ laidMetH Tryz.prog Rows.explainNilRow.laid w) ∧ sizedMet enc Tryz.prog Tryz.f3 (OpenSpec.ofChange Rows.explainNilSpec) false w args)
      (Rows.explainNilSpec.post enc Tryz.prog Tryz.f3 false true false false) := by
  refine returnsInHanded_of_change_and (C := Tryz.checked) (X := fun w _ => laidMetH Tryz.prog Rows.explainNilRow.laid w) (fun _ _ _ hh h => h.of_heap hh) Tryz.own started (by kernel_rfl) Tryz.func3
    (ChangeSpec.witness_shaped (enc := enc) (C := Tryz.checked) (os := os) (X := fun w _ => laidMetH Tryz.prog Rows.explainNilRow.laid w) false (laidW os) wit 8 rfl (World.shaped_of_ZipB (by kernel_rfl) (by kernel_rfl)) (by kernel_rfl) (by kernel_rfl) (by kernel_rfl) (laidW_met os _)) ?_
  intro W base args ds gs before hval0 hW _ _ hL _
  have hW' := hW
  obtain ⟨p, q, hA0, hV0, rfl, hfz, hnd⟩ := hW
  have hA : DataW.TrodAll enc Tryz.prog W 0 (fun _ => true) true Tryz.f3.params.toList args.toList ds p := hA0
  have hV : DataW.TrodVars enc Tryz.prog W (fun _ => true) [] gs q := hV0
  rw [Tryz.params3] at hA
  have hlt := DataW.TrodAll.lt hA
  obtain ⟨v0, v1, v2, d0, d1, d2, p0, p1, p2, rfl, rfl, rfl, h0, h1, h2⟩ := trodAll_three hA
  obtain ⟨rfl, rfl⟩ : gs = [] ∧ q = [] := by
    cases gs with
    | nil => exact ⟨rfl, hV⟩
    | cons g r => exact absurd hV (by intro h; cases h)
  have e1 : Rows.explainNilSpec.fn H ([d0, d1, d2] ++ []) = { results := [.lit (.bool true)], args := [d0, d1, d2] } := by simp [Rows.explainNilSpec]
  obtain ⟨f0, k0⟩ := id h0
  obtain ⟨f1, k1⟩ := id h1
  obtain ⟨f2, k2⟩ := id h2
  have g0 : v0.cells.toList = [v0] := by
    obtain ⟨a, len, cap, rfl⟩ := okWide_slice Tryz.underlying22 (hval0 0 22 v0 (by rw [Tryz.params3]; rfl) rfl)
    rfl
  refine (calls_true (Eng.laidOk_of hL) k0 k1 k2 g0).mono fun e W' ⟨he, hb⟩ => ?_
  subst he
  refine ⟨_, rfl, _, _, _, [], p0 ++ (p1 ++ p2), [], hW', ?_, ?_, ?_, hb.frame _, fun h => by cases h⟩
  · rw [e1]; exact trodAll_mk1 (shut_bool Tryz.underlying4 true)
  · rw [e1]
    exact trodAll_mk3 (Below.trod Tryz.laidOut (by kernel_rfl) (of_decide_eq_true (by kernel_rfl)) h0 hb fun x hx => hlt x (by simp [hx])) (Below.trod Tryz.laidOut (by kernel_rfl) (of_decide_eq_true (by kernel_rfl)) h1 hb fun x hx => hlt x (by simp [hx]))
      (Below.trod Tryz.laidOut (by kernel_rfl) (of_decide_eq_true (by kernel_rfl)) h2 hb fun x hx => hlt x (by simp [hx]))
  · rw [e1]; rfl
end Go.Proofs.YtcnlhhnmfomibaaGreatDoor
