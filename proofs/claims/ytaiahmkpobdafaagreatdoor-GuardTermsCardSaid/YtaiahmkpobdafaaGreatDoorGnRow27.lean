/- GuardTerms returns true for every guard and width and leaves them as they were; no conditions beyond the given row's own. -/
import Derived.Test.YtaiahmkpobdafaaGreatDoorGnGe
import Derived.Test.YtaiahmkpobdafaaGreatDoorRows
import Derived.Test.YtaiahmkpobdafaaGreatDoorCards
import Derived.Test.YtaiahmkpobdafaaGreatDoorTie
import Derived.ProofKit
import Derived.ChangeSame
import Derived.ChangeVars
import Derived.JoinedOf
import Derived.LaidLaws
import Derived.Lay
import Derived.Carry
import Derived.SevenTiedAt
namespace Go.Proofs.YtaiahmkpobdafaaGreatDoor
open Go.ChangeShapes Go.WideShapes Go.ChangeAt Go.RowKit Go.Eng

theorem Tryz.own : ownKnob Tryz.prog.godebug = none := by kernel_rfl
theorem Tryz.laidOut : laidOutB Tryz.prog = true := by kernel_rfl
/- reading a guard -/
def RInt (cs0 : List AV) : Prop := ∃ p, p < kMod 3 ∧ cs0 = [mk1 3 p]
def RU64 (cs0 : List AV) : Prop := ∃ p, p < kMod 7 ∧ cs0 = [mk1 7 p]
def RStr (cs0 : List AV) : Prop := ∃ l : List UInt8, cs0 = [⟨9, bytesN l, l.length, 0, 0, []⟩]
def RTm (cs0 : List AV) : Prop := ∃ t : Tm, t.ok ∧ cs0 = (tmA t).cs
theorem rd3 : Rdb Tryz.prog 3 RInt := rd_int 3 (by decide) Tryz.underlying3
theorem rd22 : Rdb Tryz.prog 22 RInt := rd_int 3 (by decide) Tryz.underlying22
theorem rd23 : Rdb Tryz.prog 23 RU64 := rd_int 7 (by decide) Tryz.underlying23
theorem rd9 : Rdb Tryz.prog 9 RStr := rd_str Tryz.underlying9
theorem c3 : Tryz.prog.cellsOf 3 = 1 := by kernel_rfl
theorem c22 : Tryz.prog.cellsOf 22 = 1 := by kernel_rfl
theorem c23 : Tryz.prog.cellsOf 23 = 1 := by kernel_rfl
theorem c9 : Tryz.prog.cellsOf 9 = 1 := by kernel_rfl
theorem c24 : Tryz.prog.cellsOf 24 = 1 := by kernel_rfl
theorem c26 : Tryz.prog.cellsOf 26 = 5 := by kernel_rfl
theorem c28 : Tryz.prog.cellsOf 28 = 11 := by kernel_rfl
theorem b26 : 0 < Tryz.prog.bytesOf 26 := of_decide_eq_true (by kernel_rfl)
theorem k3 : kMod 3 = 2 ^ 64 := by decide +kernel
theorem k7 : kMod 7 = 2 ^ 64 := by decide +kernel
theorem tm_cs (op w v nq np p : Nat) (l : List Tm) : (tmA (.mk op w v nq np p l)).cs = [i64 op, i64 w, u64 v, stA nq np, slP p 5 (l.map tmA)] := by rw [tmA_mk]; rfl
theorem agg_cs (t : Tm) : aggV (tmA t).cs = tmA t := by cases t; rw [tmA_mk]; rfl
theorem list_tm : ∀ {es : List AV}, (∀ x ∈ es, ∃ bs, RTm bs ∧ x = elemV true bs) → ∃ X : List Tm, es = X.map tmA ∧ ∀ t ∈ X, t.ok := by
  intro es
  induction es with
  | nil => intro _; exact ⟨[], rfl, fun a h => by cases h⟩
  | cons e es ih =>
    intro h
    obtain ⟨bs, ⟨t, h1, rfl⟩, rfl⟩ := h e (by simp)
    obtain ⟨X, rfl, h2⟩ := ih fun x hx => h x (by simp [hx])
    refine ⟨t :: X, by rw [List.map_cons, ← agg_cs t]; rfl, fun b hb => ?_⟩
    rcases List.mem_cons.1 hb with rfl | hb
    · exact h1
    · exact h2 b hb
theorem tm_of {cs0 : List AV} (h : Cat [RInt, RInt, RU64, RStr, IsList RTm true 5] cs0) : RTm cs0 := by
  cases h with | cons h1 h => cases h with | cons h2 h => cases h with | cons h3 h => cases h with | cons h4 h => cases h with | cons h5 h => cases h with | nil =>
  obtain ⟨op, o1, rfl⟩ := h1
  obtain ⟨w, o2, rfl⟩ := h2
  obtain ⟨v, o3, rfl⟩ := h3
  obtain ⟨s, rfl⟩ := h4
  obtain ⟨p, es, rfl, q1, q2, q3, q4⟩ := h5
  obtain ⟨X, rfl, q5⟩ := list_tm q4
  rw [k3] at o1 o2
  rw [k7] at o3
  refine ⟨.mk op w v s.length (bytesN s) p X, .mk ⟨o1, o2, o3, q1, fun h => List.map_eq_nil_iff.1 (q2 h), by simpa using q3⟩ q5, ?_⟩
  rw [tm_cs]; rfl
theorem rdT : ∀ N, RdN Tryz.prog N 26 RTm ∧ RdN Tryz.prog N 24 (IsList RTm true 5) := by
  intro N
  induction N with
  | zero => exact ⟨.zero, .zero⟩
  | succ N ih =>
    refine ⟨?_, rdn_slice Tryz.underlying24 b26 5 c26 (by decide) true (fun h => by cases h) ih.1⟩
    exact (rdn_struct Tryz.underlying26 5 c26 (.cons 1 rfl c22 (rd22.n N) (.cons 1 rfl c3 (rd3.n N) (.cons 1 rfl c23 (rd23.n N) (.cons 1 rfl c9 (rd9.n N) (.cons 1 rfl c24 ih.2 (.nil 5))))))).weaken fun cs h => tm_of h
theorem rd26 : Rdb Tryz.prog 26 RTm := .of fun N => (rdT N).1
theorem rd28 : Rdb Tryz.prog 28 (Cat [RInt, RTm, RTm]) :=
  rd_struct Tryz.underlying28 11 c28 (.cons 1 rfl c3 rd3 (.cons 5 rfl c26 rd26 (.cons 5 rfl c26 rd26 (.nil 11))))
theorem tm_V (t : Tm) : (tmA t).cs = [i64 t.op, i64 t.w, u64 t.v, stA t.nq t.np, slP t.p 5 (t.as.map tmA)] := by cases t; rw [tm_cs]; rfl
theorem guard_of {cs0 : List AV} (h : Cat [RInt, RTm, RTm] cs0) : ∃ (k : Nat) (a b : Tm), a.ok ∧ b.ok ∧ aggV cs0 = gdA k a b ∧ ∀ c ∈ cs0, okCell c = true := by
  cases h with | cons h1 h => cases h with | cons h2 h => cases h with | cons h3 h => cases h with | nil =>
  obtain ⟨k, _, rfl⟩ := h1
  obtain ⟨a, ha, rfl⟩ := h2
  obtain ⟨b, hb, rfl⟩ := h3
  refine ⟨k, a, b, ha, hb, by rw [tm_V, tm_V]; rfl, ?_⟩
  intro c hc
  rw [tm_V, tm_V] at hc
  simp only [List.cons_append, List.nil_append, List.append_nil, List.mem_cons, List.not_mem_nil, or_false] at hc
  rcases hc with rfl | rfl | rfl | rfl | rfl | rfl | rfl | rfl | rfl | rfl | rfl <;> rfl
theorem agg_of {v : Value} {l : List Value} (h : v.cells.toList = l) (hl : 2 ≤ l.length) : v = .agg l.toArray := by
  cases v <;> first | (simp only [Value.cells] at h; subst h; simp at hl; done) | (simp only [Value.cells] at h; subst h; simp)
/-- an argument, as the driver is given it -/
theorem arg_of {X : Type} {enc : TypeId × Value → X} {W : World} {spare : Nat → Bool} {held : Bool} {fuel : Nat} {v : Value} {x : DataW X × List MemPlace} (h : DataW.trod enc Tryz.prog W 0 spare held fuel 28 v.cells.toList = some x) (hw : (x.1.weights Tryz.prog 28).all (· ≤ reachBytes) = true) :
    ∃ (k : Nat) (a b : Tm), a.ok ∧ b.ok ∧ FV (allZ W) (gdA k a b) v := by
  obtain ⟨cs0, h1, h2⟩ := rd28 X enc W spare held fuel _ x h hw
  obtain ⟨k, a, b, ha, hb, g2, g3⟩ := guard_of h1
  have hlen : v.cells.toList.length = 11 := by
    rw [← h2.length]
    have e : cs0 = (gdA k a b).cs := congrArg AV.cs g2
    rw [e]; rfl
  have hv := agg_of (l := v.cells.toList) rfl (by omega)
  refine ⟨k, a, b, ha, hb, fun φ e => ?_⟩
  rw [hv, ← g2]
  exact .agg 0 0 0 0 cs0 _ (FZs.vrs (φ := φ) (by rw [e]; exact h2)) g3
theorem arg_int {X : Type} {enc : TypeId × Value → X} {W : World} {spare : Nat → Bool} {held : Bool} {fuel : Nat} {n : Int} {x : DataW X × List MemPlace} (h : DataW.trod enc Tryz.prog W 0 spare held fuel 3 (Value.int .i64 n).cells.toList = some x) (hw : (x.1.weights Tryz.prog 3).all (· ≤ reachBytes) = true) :
    ∃ w, w < 2 ^ 64 ∧ FV (allZ W) (i64 w) (.int .i64 n) := by
  obtain ⟨cs0, ⟨w, h1, rfl⟩, h2⟩ := rd3 X enc W spare held fuel _ x h hw
  refine ⟨w, by rw [← k3]; exact h1, fun φ e => ?_⟩
  have := FZs.vrs (φ := φ) (by rw [e]; exact h2)
  cases this with
  | cons g _ => exact g
theorem laidL {W : World} (h : laidMet Tryz.prog Rows.guardTermsRow.laid W) : LaidL W L27 ∧ Tryz.prog.globals.size ≤ W.heap.size := by
  have g1 : Tryz.prog.globalNamed "internal/strconv.uint64pow10" = some 1 := by kernel_rfl
  have g2 : Tryz.prog.globalNamed "math/bits.deBruijn32tab" = some 2 := by kernel_rfl
  have g3 : Tryz.prog.globalNamed "math/bits.deBruijn64tab" = some 3 := by kernel_rfl
  have d1 : dav 4 Rows.laid_math_bits_deBruijn32tab = some (cellsD Rows.laid_math_bits_deBruijn32tab) := by kernel_rfl
  have d2 : dav 4 Rows.laid_math_bits_deBruijn64tab = some (cellsD Rows.laid_math_bits_deBruijn64tab) := by kernel_rfl
  have d3 : dav 4 Rows.laid_internal_strconv_uint64pow10 = some (cellsD Rows.laid_internal_strconv_uint64pow10) := by kernel_rfl
  have n1 : (cellsD Rows.laid_math_bits_deBruijn32tab).isEmpty = false := by kernel_rfl
  have n2 : (cellsD Rows.laid_math_bits_deBruijn64tab).isEmpty = false := by kernel_rfl
  have n3 : (cellsD Rows.laid_internal_strconv_uint64pow10).isEmpty = false := by kernel_rfl
  refine ⟨laidL_of Tryz.laidOut h fun g hg => ?_, laid_size h (n := "math/bits.deBruijn64tab") (d := Rows.laid_math_bits_deBruijn64tab) (by simp [Rows.guardTermsRow]) g3 globs27⟩
  unfold L27 at hg
  simp only [List.mem_cons, List.not_mem_nil, or_false] at hg
  rcases hg with rfl | rfl | rfl
  · exact ⟨_, _, 4, by simp [Rows.guardTermsRow], g2, d1, fun e => by have e' : cellsD Rows.laid_math_bits_deBruijn32tab = [] := e; rw [e'] at n1; cases n1⟩
  · exact ⟨_, _, 4, by simp [Rows.guardTermsRow], g3, d2, fun e => by have e' : cellsD Rows.laid_math_bits_deBruijn64tab = [] := e; rw [e'] at n2; cases n2⟩
  · exact ⟨_, _, 4, by simp [Rows.guardTermsRow], g1, d3, fun e => by have e' : cellsD Rows.laid_internal_strconv_uint64pow10 = [] := e; rw [e'] at n3; cases n3⟩
noncomputable def laidW (os : Os) : World := World.laidAll Tryz.prog os Rows.guardTermsRow.laid
theorem laidW_met (os : Os) (args : Array Value) : laidMetH Tryz.prog Rows.guardTermsRow.laid ((laidW os).forCall (fun _ _ => 0) ⟨#[], args, []⟩).memory := by
  have h : laidMet Tryz.prog Rows.guardTermsRow.laid ((laidW os).forCall (fun _ _ => 0) ⟨#[], args, []⟩).memory := laidMet_laidAll _ (by kernel_rfl) (by kernel_rfl)
  exact h
noncomputable def wit : Array Value := #[.agg #[.int .i64 0, .int .i64 0, .int .i64 0, .int .u64 0, .string .empty, .slice none 0 0, .int .i64 0, .int .i64 0, .int .u64 0, .string .empty, .slice none 0 0], .int .i64 0]
set_option maxRecDepth 100000 in
theorem guardTerms_lifted (os : Os) (started : os.Started) (H : Type) (enc : TypeId × Value → H) :
    ReturnsInHanded {} Tryz.checked os 3 .any (fun w args => (Rows.guardTermsSpec.pre enc Tryz.prog Tryz.f3 [] false w args ∧ laidMetH Tryz.prog Rows.guardTermsRow.laid w) ∧ sizedMet enc Tryz.prog Tryz.f3 (OpenSpec.ofChange Rows.guardTermsSpec) false w args)
      (Rows.guardTermsSpec.post enc Tryz.prog Tryz.f3 false true false false) := by
  refine returnsInHanded_of_change_and (C := Tryz.checked) (X := fun w _ => laidMetH Tryz.prog Rows.guardTermsRow.laid w) (fun _ _ _ hh h => h.of_heap hh) Tryz.own started (by kernel_rfl) Tryz.func3
    (ChangeSpec.witness_shaped (enc := enc) (C := Tryz.checked) (os := os) (X := fun w _ => laidMetH Tryz.prog Rows.guardTermsRow.laid w) false (laidW os) wit 8 rfl (World.shaped_of_ZipB (by kernel_rfl) (by kernel_rfl)) (by kernel_rfl) (by kernel_rfl) (by kernel_rfl) (laidW_met os _)) ?_
  intro W base args ds gs before hval0 hW _ hwt hL _
  have hW' := hW
  obtain ⟨p, q, hA0, hV0, rfl, hfz, hnd⟩ := hW
  have hA : DataW.TrodAll enc Tryz.prog W 0 (fun _ => true) true Tryz.f3.params.toList args.toList ds p := hA0
  have hV : DataW.TrodVars enc Tryz.prog W (fun _ => true) [] gs q := hV0
  have hval : ∀ (j : Nat) t v, Tryz.f3.params[j]? = some t → args[j]? = some v → Value.okWide Tryz.prog W .any base t v := hval0
  rw [Tryz.params3] at hA hval
  have hlt := DataW.TrodAll.lt hA
  obtain ⟨v0, v1, d0, d1, p0, p1, rfl, rfl, rfl, h0, h1⟩ := trodAll_two hA
  obtain ⟨rfl, rfl⟩ : gs = [] ∧ q = [] := by
    cases gs with
    | nil => exact ⟨rfl, hV⟩
    | cons g r => exact absurd hV (by intro h; cases h)
  have e1 : Rows.guardTermsSpec.fn H ([d0, d1] ++ []) = { results := [.lit (.bool true)], args := [d0, d1] } := by simp [Rows.guardTermsSpec]
  have hwt' : (DataW.weightsEach Tryz.prog [28, 3] [d0, d1]).all (· ≤ reachBytes) = true := by
    have h := hwt
    rw [Tryz.params3] at h
    exact h
  obtain ⟨n1, rfl, hd1, hp1, wb⟩ := open_int Tryz.underlying3 (hval 1 3 v1 rfl rfl) h1
  obtain ⟨f0, k0⟩ := id h0
  obtain ⟨f1, k1⟩ := id h1
  obtain ⟨k, a, b, oa, ob, z0⟩ := arg_of k0 (each_at hwt' 0 28 d0 rfl rfl)
  obtain ⟨w, hw, z1⟩ := arg_int k1 (each_at hwt' 1 3 d1 rfl rfl)
  obtain ⟨hl, hsz⟩ := laidL hL
  have hargs : FVs (allZ W) [gdA k a b, i64 w] [v0, .int .i64 n1] := fun φ e => .cons (z0 φ e) (.cons (z1 φ e) .nil)
  refine (law_calls k a b w oa ob hw hl hsz hargs).mono fun e W' ⟨he, hb⟩ => ?_
  subst he
  refine ⟨_, rfl, _, _, _, [], p0 ++ p1, [], hW', ?_, ?_, ?_, hb.frame _, fun h => by cases h⟩
  · rw [e1]; exact trodAll_mk1 (shut_bool Tryz.underlying4 true)
  · rw [e1]
    exact trodAll_mk2 (Below.trod Tryz.laidOut (by kernel_rfl) (of_decide_eq_true (by kernel_rfl)) h0 hb fun x hx => hlt x (by simp [hx])) (Below.trod Tryz.laidOut (by kernel_rfl) (of_decide_eq_true (by kernel_rfl)) h1 hb fun x hx => hlt x (by simp [hx]))
  · rw [e1]; rfl
end Go.Proofs.YtaiahmkpobdafaaGreatDoor
