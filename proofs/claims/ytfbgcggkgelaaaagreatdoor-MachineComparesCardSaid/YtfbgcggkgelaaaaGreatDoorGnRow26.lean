/- MachineCompares returns true for every two matches and leaves them as they were; no conditions beyond the given row's own. -/
import Derived.Test.YtfbgcggkgelaaaaGreatDoorGnP26
import Derived.Test.YtfbgcggkgelaaaaGreatDoorRows
import Derived.Test.YtfbgcggkgelaaaaGreatDoorCards
import Derived.Test.YtfbgcggkgelaaaaGreatDoorTie
import Derived.ProofKit
import Derived.ChangeSame
import Derived.ChangeVars
import Derived.JoinedOf
import Derived.LaidLaws
import Derived.Lay
import Derived.Carry
import Derived.SevenTiedAt
namespace Go.Proofs.YtfbgcggkgelaaaaGreatDoor
open Go.ChangeShapes Go.WideShapes Go.ChangeAt Go.RowKit Go.Eng

theorem Tryz.own : ownKnob Tryz.prog.godebug = none := by kernel_rfl
theorem Tryz.laidOut : laidOutB Tryz.prog = true := by kernel_rfl
/- reading a match -/
def RInt (cs0 : List AV) : Prop := ∃ p, p < kMod 3 ∧ cs0 = [mk1 3 p]
def RU64 (cs0 : List AV) : Prop := ∃ p, p < kMod 7 ∧ cs0 = [mk1 7 p]
def RStr (cs0 : List AV) : Prop := ∃ l : List UInt8, cs0 = [⟨9, bytesN l, l.length, 0, 0, []⟩]
theorem rd3 : Rdb Tryz.prog 3 RInt := rd_int 3 (by decide) Tryz.underlying3
theorem rd31 : Rdb Tryz.prog 31 RU64 := rd_int 7 (by decide) Tryz.underlying31
theorem rd9 : Rdb Tryz.prog 9 RStr := rd_str Tryz.underlying9
theorem c3 : Tryz.prog.cellsOf 3 = 1 := by kernel_rfl
theorem c31 : Tryz.prog.cellsOf 31 = 1 := by kernel_rfl
theorem c9 : Tryz.prog.cellsOf 9 = 1 := by kernel_rfl
theorem c63 : Tryz.prog.cellsOf 63 = 2 := by kernel_rfl
theorem c54 : Tryz.prog.cellsOf 54 = 2 := by kernel_rfl
theorem c22 : Tryz.prog.cellsOf 22 = 1 := by kernel_rfl
theorem c23 : Tryz.prog.cellsOf 23 = 1 := by kernel_rfl
theorem c24 : Tryz.prog.cellsOf 24 = 1 := by kernel_rfl
theorem c26 : Tryz.prog.cellsOf 26 = 3 := by kernel_rfl
theorem b3 : 0 < Tryz.prog.bytesOf 3 := of_decide_eq_true (by kernel_rfl)
theorem b63 : 0 < Tryz.prog.bytesOf 63 := of_decide_eq_true (by kernel_rfl)
theorem b54 : 0 < Tryz.prog.bytesOf 54 := of_decide_eq_true (by kernel_rfl)
theorem rd63 : Rdb Tryz.prog 63 (Cat [RStr, RInt]) := rd_struct Tryz.underlying63 2 c63 (.cons 1 rfl c9 rd9 (.cons 1 rfl c3 rd3 (.nil 2)))
theorem rd54 : Rdb Tryz.prog 54 (Cat [RStr, RU64]) := rd_struct Tryz.underlying54 2 c54 (.cons 1 rfl c9 rd9 (.cons 1 rfl c31 rd31 (.nil 2)))
theorem rd22 : Rdb Tryz.prog 22 (IsList RInt false 1) := rd_slice Tryz.underlying22 b3 1 c3 (by decide) false (fun _ => rfl) rd3
theorem rd23 : Rdb Tryz.prog 23 (IsList (Cat [RStr, RInt]) true 2) := rd_slice Tryz.underlying23 b63 2 c63 (by decide) true (fun h => by cases h) rd63
theorem rd24 : Rdb Tryz.prog 24 (IsList (Cat [RStr, RU64]) true 2) := rd_slice Tryz.underlying24 b54 2 c54 (by decide) true (fun h => by cases h) rd54
theorem rd26 : Rdb Tryz.prog 26 (Cat [IsList RInt false 1, IsList (Cat [RStr, RInt]) true 2, IsList (Cat [RStr, RU64]) true 2]) :=
  rd_struct Tryz.underlying26 3 c26 (.cons 1 rfl c22 rd22 (.cons 1 rfl c23 rd23 (.cons 1 rfl c24 rd24 (.nil 3))))
theorem list_of {α : Type} {f : α → AV} {Q : α → Prop} : ∀ {es : List AV}, (∀ x ∈ es, ∃ a, Q a ∧ x = f a) → ∃ X : List α, es = X.map f ∧ ∀ a ∈ X, Q a := by
  intro es
  induction es with
  | nil => intro _; exact ⟨[], rfl, fun a h => by cases h⟩
  | cons e es ih =>
    intro h
    obtain ⟨a, h1, rfl⟩ := h e (by simp)
    obtain ⟨X, rfl, h2⟩ := ih fun x hx => h x (by simp [hx])
    exact ⟨a :: X, rfl, fun b hb => by
      rcases List.mem_cons.1 hb with rfl | hb
      · exact h1
      · exact h2 b hb⟩
theorem k3 : kMod 3 = 2 ^ 64 := by decide +kernel
theorem k7 : kMod 7 = 2 ^ 64 := by decide +kernel
theorem match_of {cs0 : List AV} (h : Cat [IsList RInt false 1, IsList (Cat [RStr, RInt]) true 2, IsList (Cat [RStr, RU64]) true 2] cs0) : ∃ m : Mt, m.big ∧ aggV cs0 = mtA m ∧ ∀ c ∈ cs0, okCell c = true := by
  cases h with | cons h1 h => cases h with | cons h2 h => cases h with | cons h3 h => cases h with | nil =>
  obtain ⟨p1, e1, rfl, _, _, s1, g1⟩ := h1
  obtain ⟨p2, e2, rfl, _, _, s2, g2⟩ := h2
  obtain ⟨p3, e3, rfl, _, _, s3, g3⟩ := h3
  obtain ⟨X, rfl, x1⟩ := list_of (f := i64) (Q := fun x => x < 2 ^ 64) (es := e1) fun x hx => by
    obtain ⟨bs, ⟨p, hp, rfl⟩, rfl⟩ := g1 x hx
    exact ⟨p, by rw [← k3]; exact hp, rfl⟩
  obtain ⟨Y, rfl, y1⟩ := list_of (f := prF) (Q := fun x => x.2.2 < 2 ^ 64) (es := e2) fun x hx => by
    obtain ⟨bs, hb, rfl⟩ := g2 x hx
    cases hb with | cons q1 hb => cases hb with | cons q2 hb => cases hb with | nil =>
    obtain ⟨l, rfl⟩ := q1
    obtain ⟨p, hp, rfl⟩ := q2
    exact ⟨(l.length, bytesN l, p), by rw [← k3]; exact hp, rfl⟩
  obtain ⟨Z, rfl, z1⟩ := list_of (f := prU) (Q := fun x => x.2.2 < 2 ^ 64) (es := e3) fun x hx => by
    obtain ⟨bs, hb, rfl⟩ := g3 x hx
    cases hb with | cons q1 hb => cases hb with | cons q2 hb => cases hb with | nil =>
    obtain ⟨l, rfl⟩ := q1
    obtain ⟨p, hp, rfl⟩ := q2
    exact ⟨(l.length, bytesN l, p), by rw [← k7]; exact hp, rfl⟩
  rw [List.length_map] at s1 s2 s3
  refine ⟨⟨p1, p2, p3, X, Y, Z⟩, ⟨s1, s2, s3, x1, y1, z1⟩, rfl, ?_⟩
  intro c hc
  simp only [List.cons_append, List.nil_append, List.mem_cons, List.not_mem_nil, or_false] at hc
  rcases hc with rfl | rfl | rfl <;> rfl
theorem agg_of {v : Value} {l : List Value} (h : v.cells.toList = l) (hl : 2 ≤ l.length) : v = .agg l.toArray := by
  cases v <;> first | (simp only [Value.cells] at h; subst h; simp at hl; done) | (simp only [Value.cells] at h; subst h; simp)
/-- an argument, as the driver is given it -/
theorem arg_of {X : Type} {enc : TypeId × Value → X} {W : World} {spare : Nat → Bool} {held : Bool} {fuel : Nat} {v : Value} {x : DataW X × List MemPlace} (h : DataW.trod enc Tryz.prog W 0 spare held fuel 26 v.cells.toList = some x) (hw : (x.1.weights Tryz.prog 26).all (· ≤ reachBytes) = true) :
    ∃ m : Mt, m.big ∧ FV (allZ W) (mtA m) v := by
  obtain ⟨cs0, h1, h2⟩ := rd26 X enc W spare held fuel _ x h hw
  obtain ⟨m, g1, g2, g3⟩ := match_of h1
  have hlen : v.cells.toList.length = 3 := by
    rw [← h2.length]
    have e : cs0 = (mtA m).cs := congrArg AV.cs g2
    rw [e]; rfl
  have hv := agg_of (l := v.cells.toList) rfl (by omega)
  refine ⟨m, g1, fun φ e => ?_⟩
  rw [hv, ← g2]
  exact .agg 0 0 0 0 cs0 _ (FZs.vrs (φ := φ) (by rw [e]; exact h2)) g3
theorem laidL {W : World} (h : laidMet Tryz.prog Rows.machineComparesRow.laid W) : LaidL W L26 ∧ Tryz.prog.globals.size ≤ W.heap.size := by
  have g1 : Tryz.prog.globalNamed "internal/strconv.uint64pow10" = some 1 := by kernel_rfl
  have g2 : Tryz.prog.globalNamed "math/bits.deBruijn32tab" = some 2 := by kernel_rfl
  have g3 : Tryz.prog.globalNamed "math/bits.deBruijn64tab" = some 3 := by kernel_rfl
  have d1 : dav 4 Rows.laid_math_bits_deBruijn32tab = some (cellsD Rows.laid_math_bits_deBruijn32tab) := by kernel_rfl
  have d2 : dav 4 Rows.laid_math_bits_deBruijn64tab = some (cellsD Rows.laid_math_bits_deBruijn64tab) := by kernel_rfl
  have d3 : dav 4 Rows.laid_internal_strconv_uint64pow10 = some (cellsD Rows.laid_internal_strconv_uint64pow10) := by kernel_rfl
  have n1 : (cellsD Rows.laid_math_bits_deBruijn32tab).isEmpty = false := by kernel_rfl
  have n2 : (cellsD Rows.laid_math_bits_deBruijn64tab).isEmpty = false := by kernel_rfl
  have n3 : (cellsD Rows.laid_internal_strconv_uint64pow10).isEmpty = false := by kernel_rfl
  refine ⟨laidL_of Tryz.laidOut h fun g hg => ?_, laid_size h (n := "math/bits.deBruijn64tab") (d := Rows.laid_math_bits_deBruijn64tab) (by simp [Rows.machineComparesRow]) g3 globs4⟩
  unfold L26 at hg
  simp only [List.mem_cons, List.not_mem_nil, or_false] at hg
  rcases hg with rfl | rfl | rfl
  · exact ⟨_, _, 4, by simp [Rows.machineComparesRow], g2, d1, fun e => by have e' : cellsD Rows.laid_math_bits_deBruijn32tab = [] := e; rw [e'] at n1; cases n1⟩
  · exact ⟨_, _, 4, by simp [Rows.machineComparesRow], g3, d2, fun e => by have e' : cellsD Rows.laid_math_bits_deBruijn64tab = [] := e; rw [e'] at n2; cases n2⟩
  · exact ⟨_, _, 4, by simp [Rows.machineComparesRow], g1, d3, fun e => by have e' : cellsD Rows.laid_internal_strconv_uint64pow10 = [] := e; rw [e'] at n3; cases n3⟩
noncomputable def laidW (os : Os) : World := World.laidAll Tryz.prog os Rows.machineComparesRow.laid
theorem laidW_met (os : Os) (args : Array Value) : laidMetH Tryz.prog Rows.machineComparesRow.laid ((laidW os).forCall (fun _ _ => 0) ⟨#[], args, []⟩).memory := by
  have h : laidMet Tryz.prog Rows.machineComparesRow.laid ((laidW os).forCall (fun _ _ => 0) ⟨#[], args, []⟩).memory := laidMet_laidAll _ (by kernel_rfl) (by kernel_rfl)
  exact h
noncomputable def wit : Array Value := #[.agg #[.slice none 0 0, .slice none 0 0, .slice none 0 0], .agg #[.slice none 0 0, .slice none 0 0, .slice none 0 0]]
set_option maxRecDepth 100000 in
theorem machineCompares_lifted (os : Os) (started : os.Started) (H : Type) (enc : TypeId × Value → H) :
    ReturnsInHanded {} Tryz.checked os 3 .any (fun w args => (Rows.machineComparesSpec.pre enc Tryz.prog Tryz.f3 [] false w args ∧ laidMetH Tryz.prog Rows.machineComparesRow.laid w) ∧ sizedMet enc Tryz.prog Tryz.f3 (OpenSpec.ofChange Rows.machineComparesSpec) false w args)
      (Rows.machineComparesSpec.post enc Tryz.prog Tryz.f3 false true false false) := by
  refine returnsInHanded_of_change_and (C := Tryz.checked) (X := fun w _ => laidMetH Tryz.prog Rows.machineComparesRow.laid w) (fun _ _ _ hh h => h.of_heap hh) Tryz.own started (by kernel_rfl) Tryz.func3
    (ChangeSpec.witness_shaped (enc := enc) (C := Tryz.checked) (os := os) (X := fun w _ => laidMetH Tryz.prog Rows.machineComparesRow.laid w) false (laidW os) wit 8 rfl (World.shaped_of_ZipB (by kernel_rfl) (by kernel_rfl)) (by kernel_rfl) (by kernel_rfl) (by kernel_rfl) (laidW_met os _)) ?_
  intro W base args ds gs before hval0 hW _ hwt hL _
  have hW' := hW
  obtain ⟨p, q, hA0, hV0, rfl, hfz, hnd⟩ := hW
  have hA : DataW.TrodAll enc Tryz.prog W 0 (fun _ => true) true Tryz.f3.params.toList args.toList ds p := hA0
  have hV : DataW.TrodVars enc Tryz.prog W (fun _ => true) [] gs q := hV0
  rw [Tryz.params3] at hA
  have hlt := DataW.TrodAll.lt hA
  obtain ⟨v0, v1, d0, d1, p0, p1, rfl, rfl, rfl, h0, h1⟩ := trodAll_two hA
  obtain ⟨rfl, rfl⟩ : gs = [] ∧ q = [] := by
    cases gs with
    | nil => exact ⟨rfl, hV⟩
    | cons g r => exact absurd hV (by intro h; cases h)
  have e1 : Rows.machineComparesSpec.fn H ([d0, d1] ++ []) = { results := [.lit (.bool true)], args := [d0, d1] } := by simp [Rows.machineComparesSpec]
  have hwt' : (DataW.weightsEach Tryz.prog [26, 26] [d0, d1]).all (· ≤ reachBytes) = true := by
    have h := hwt
    rw [Tryz.params3] at h
    exact h
  obtain ⟨f0, k0⟩ := id h0
  obtain ⟨f1, k1⟩ := id h1
  obtain ⟨m0, b0, z0⟩ := arg_of k0 (each_at hwt' 0 26 d0 rfl rfl)
  obtain ⟨m1, b1, z1⟩ := arg_of k1 (each_at hwt' 1 26 d1 rfl rfl)
  obtain ⟨hl, hsz⟩ := laidL hL
  have hargs : FVs (allZ W) [mtA m0, mtA m1] [v0, v1] := fun φ e => .cons (z0 φ e) (.cons (z1 φ e) .nil)
  refine (law_calls m0 m1 b0 b1 hl hsz hargs).mono fun e W' ⟨he, hb⟩ => ?_
  subst he
  refine ⟨_, rfl, _, _, _, [], p0 ++ p1, [], hW', ?_, ?_, ?_, hb.frame _, fun h => by cases h⟩
  · rw [e1]; exact trodAll_mk1 (shut_bool Tryz.underlying4 true)
  · rw [e1]
    exact trodAll_mk2 (Below.trod Tryz.laidOut (by kernel_rfl) (of_decide_eq_true (by kernel_rfl)) h0 hb fun x hx => hlt x (by simp [hx])) (Below.trod Tryz.laidOut (by kernel_rfl) (of_decide_eq_true (by kernel_rfl)) h1 hb fun x hx => hlt x (by simp [hx]))
  · rw [e1]; rfl
end Go.Proofs.YtfbgcggkgelaaaaGreatDoor
