/- A part of the proof that the evaluator in EngC answers as the model does; no conditions. -/
import Derived.Test.YtcnlhhnmfomibaaGreatDoorEngLay237
import Derived.Test.YtcnlhhnmfomibaaGreatDoorEngRd37
namespace Go.Eng
open Go.RowKit Go.Proofs
noncomputable def isTrueR (l : List CRes) : Bool := List.rec (motive := fun _ => Bool) true (fun c _ ih => bi (Nat.beq c.ok 1) (bi (Nat.beq c.v.tag 8) (bi (Nat.beq c.v.p 1) ih false) false) false) l
theorem isTrueR_mem {l : List CRes} (h : isTrueR l = true) : ∀ c ∈ l, c.ok = 1 ∧ c.v.tag = 8 ∧ c.v.p = 1 := by
  induction l with
  | nil => intro c hc; cases hc
  | cons x l ih =>
    have h' : bi (Nat.beq x.ok 1) (bi (Nat.beq x.v.tag 8) (bi (Nat.beq x.v.p 1) (isTrueR l) false) false) false = true := h
    obtain ⟨h1, h'⟩ := bi_and.1 h'
    obtain ⟨h2, h'⟩ := bi_and.1 h'
    obtain ⟨h3, h'⟩ := bi_and.1 h'
    intro c hc
    cases hc with
    | head => exact ⟨beq_true.1 h1, beq_true.1 h2, beq_true.1 h3⟩
    | tail _ hc => exact ih h' c hc
/-- slices.Sorted is answered by its contract -/
noncomputable def nt37 (f : Nat) : Option Native := bi (Nat.beq f 220) (some (sortedN 280)) none
/-- maps.Equal and hashcons.Table.Nodes give one result whatever order their walks take -/
noncomputable def mg37 (f : Nat) : Bool := bi (Nat.beq f 124) true (Nat.beq f 194)
theorem nt37_ok : NatOk Tryz.prog nt37 := by
  intro f g h
  unfold nt37 at h
  cases hf : Nat.beq f 220
  · rw [hf] at h; cases h
  · rw [hf] at h
    cases h
    rw [beq_true.1 hf]
    exact sortedN_ok Tryz.underlying3 sorted_says sorted_says_nil
theorem noGor : NoGor Tryz.prog := by
  have h : (Tryz.prog.funcs.all fun fn => !(fn.name == "runtime.NumGoroutine")) = true := by kernel_rfl
  intro f fn hf
  have := Array.all_eq_true_iff_forall_mem.1 h fn (Array.mem_of_getElem? hf)
  simpa using this
/-! ### the package's variables -/
noncomputable def strA (l : List Nat) : AV := ⟨9, List.rec (motive := fun _ => Nat → Nat) (fun n => n) (fun a _ ih n => ih (Nat.add (Nat.mul n 256) a)) l 0, lenL l, 0, 0, []⟩
noncomputable def kindsL : List AV := [strA [], mk1 3 0, mk1 3 0, strA [114, 101, 102, 108], mk1 3 0, mk1 3 0, strA [115, 121, 109], mk1 3 1, mk1 3 1, strA [116, 114, 97, 110, 115], mk1 3 2, mk1 3 2, strA [99, 111, 110, 103], mk1 3 0, mk1 3 3, strA [114, 117, 108, 101], mk1 3 0, mk1 3 12, strA [102, 111, 108, 100], mk1 3 0, mk1 3 0, strA [116, 111, 112], mk1 3 0, mk1 3 0, strA [110, 111, 100, 101], mk1 3 0, mk1 3 3, strA [109, 101, 101, 116], mk1 3 2, mk1 3 2, strA [109, 111, 118, 101], mk1 3 2, mk1 3 2, strA [115, 105, 110, 103, 108, 101], mk1 3 1, mk1 3 1, strA [103, 105, 118, 101, 110], mk1 3 0, mk1 3 0]
noncomputable def H37 : Hp := ⟨(hset ⟨noH.t, 0, 0⟩ 0 (cellsB kindsL 1)).t, Tryz.prog.globals.size, Tryz.prog.globals.size⟩
theorem glob5 : Tryz.prog.globals.size = 5 := by kernel_rfl
theorem H37_0 : hget H37 0 = cellsB kindsL 1 := by
  have := hget_hset (H := ⟨noH.t, 0, 0⟩) (i := 0) (j := 0) (by omega) (by omega) (cellsB kindsL 1)
  rw [if_pos rfl] at this; exact this
theorem H37_ne {b : Nat} (h0 : b ≠ 0) (hb : b < 32768) : hget H37 b = noB := by
  have := hget_hset (H := ⟨noH.t, 0, 0⟩) (i := 0) (j := b) (by omega) hb (cellsB kindsL 1)
  rw [if_neg (Ne.symm h0)] at this
  exact this.trans (hget_noH b)
theorem kinds_low : ∀ a ∈ kindsL, a.tag < 10 := by
  have h : (kindsL.all fun a => Nat.ble (Nat.succ a.tag) 10) = true := by kernel_rfl
  intro a ha
  exact ble_true.1 (List.all_eq_true.1 h a ha)
theorem VR.low {φ φ' : Ph} {a : AV} {v : Value} (h : VR φ a v) (ht : a.tag < 10) : VR φ' a v := by
  cases h with
  | int c p r s cs e1 e2 => exact .int c p r s cs e1 e2
  | bool b r s cs => exact .bool b r s cs
  | str l r s cs => exact .str l r s cs
  | _ => simp at ht
theorem VRs.low {φ φ' : Ph} {l : List AV} : ∀ {vs : List Value}, VRs φ l vs → (∀ a ∈ l, a.tag < 10) → VRs φ' l vs := by
  induction l with
  | nil => intro vs h _; cases h; exact .nil
  | cons a l ih => intro vs h ht; cases h with | cons h1 h2 => exact .cons (h1.low (ht a (by simp))) (ih h2 fun b hb => ht b (by simp [hb]))
/-- the table of kinds lies where it lies -/
def LaidOk (W : World) : Prop := 4 < W.heap.size ∧ ∃ (l rest : List Value) (t : TypeId), W.heap[0]? = some (.cells (l ++ rest).toArray t) ∧ ∀ φ, VRs φ kindsL l
def ph0 (W : World) : Ph := ⟨fun b => if b < 5 then some b else none, fun _ => 0, fun p v => ∃ t, p = 32 + t ∧ Opq Tryz.prog W t v⟩
theorem ph0_some {W : World} {b x : Nat} (h : ph0 W b = some x) : b < 5 ∧ x = b := by
  have h' : (if b < 5 then some b else none) = some x := h
  split at h'
  · rename_i hb; cases h'; exact ⟨hb, rfl⟩
  · cases h'
theorem kinds_ok : ∀ c ∈ kindsL, okCell c = true := by
  have h : (kindsL.all okCell) = true := by kernel_rfl
  exact fun a ha => List.all_eq_true.1 h a ha
theorem HR.start37 {W : World} (h : LaidOk W) : HR Tryz.prog W H37 (ph0 W) W := by
  obtain ⟨hsz, l, rest, t, ho, hv⟩ := h
  have hn : H37.n = 5 := glob5
  have hlim : H37.lim = 5 := glob5
  refine ⟨fun b x hb => ?_, fun b b' x hb hb' _ _ => ?_, by omega, by omega, Below.refl _ _, fun g hg => ?_, fun t v hp => ?_⟩
  · obtain ⟨h5, rfl⟩ := ph0_some hb
    refine ⟨by omega, fun hl => by omega, ?_⟩
    by_cases h0 : x = 0
    · subst h0
      refine ⟨_, ho, ?_⟩
      rw [H37_0]
      exact ⟨fun _ => ⟨l, rest, t, rfl, hv _, kinds_ok, fun h => by cases h⟩, (fun h => by cases h), (fun h => by cases h), (fun h => by exact no41 h)⟩
    · refine ⟨W.heap[x]'(by omega), by simp, ?_⟩
      rw [H37_ne h0 (by omega)]
      exact brel_noB
  · rw [← (ph0_some hb).2, (ph0_some hb').2]
  · have : g < 5 := by rw [← glob5]; exact hg
    show (if g < 5 then some g else none) = some g
    rw [if_pos this]
  · obtain ⟨t', e, ho⟩ := hp
    have : t = t' := by omega
    rw [this]; exact ho
theorem HR.later {P : Program} {w0 w w' : World} {H : Hp} {φ : Ph} (hr : HR P w0 H φ w) (hb : Below w.heap.size w w') : HR P w0 H φ w' := by
  refine ⟨fun b x hx => ?_, hr.inj, hr.n, hr.lim, hr.below.trans (hb.mono hr.below.size), hr.gl, hr.op⟩
  obtain ⟨h1, h2, o, h3, h4⟩ := hr.blk b x hx
  exact ⟨h1, h2, o, by rw [hb.block x (Array.getElem?_eq_some_iff.1 h3).1]; exact h3, h4⟩
/-- a call of function f, evaluated to true -/
theorem calls_of_eval {nt : Nat → Option Native} {mg : Nat → Bool} (hnt : NatOk Tryz.prog nt) {f n : Nat} {xs : List AV} {vals : List Value} {W : World} (hW : LaidOk W) (hv : VRs (ph0 W) xs vals) (h : isTrueR (evN Tryz.prog nt mg n (mk1 13 f) xs H37) = true) :
    Calls Tryz.prog f vals.toArray W fun e W' => e = .returned (.bool true) ∧ Below W.heap.size W W' := by
  have hm := isTrueR_mem h
  have hrec : RecOk Tryz.prog (evN Tryz.prog nt mg n) := evN_ok keysA.mixed hnt noGor n
  rcases hrec W H37 (ph0 W) W (mk1 13 f) (.func (.func f) #[] #[]) xs vals (.fn f 0 0 0 [] [] [] .nil rfl) hv (HR.start37 hW) (fun c hc => (hm c hc).1) with ⟨f', first, cap, fn, e1, _, _, _, hc⟩ | ⟨l, _, _, _, _, e1, _⟩
  · injection e1 with e1 e2 e3
    injection e1 with e1
    subst e1 e2 e3
    have hc' : Calls Tryz.prog f vals.toArray W (CallPost Tryz.prog W (evN Tryz.prog nt mg n (mk1 13 f) xs H37) H37 (ph0 W)) := by simpa using hc
    refine Calls.mono hc' fun e w' he => ?_
    cases e with
    | returned v =>
      obtain ⟨c, hcm, φ', g1, g2, _⟩ := he
      obtain ⟨_, h2, h3⟩ := hm c hcm
      obtain ⟨b, rfl, hp, _⟩ := g1.of_bool h2
      rw [h3] at hp
      cases b
      · cases hp
      · exact ⟨rfl, g2.below⟩
    | panicked ch => exact he.elim
    | outgrown => exact he.elim
  · injection e1 with e1
    cases e1
/-! ### lives, and the count of a term's nodes -/
noncomputable def opq (p : Nat) : AV := mk1 23 p
noncomputable def termA : AV := aggV [opq 5, opq 5, opq 9, opq 10, opq 58]
noncomputable def countN : Native := fun args H => bi (Nat.beq (lenL args) 3) (bi (eqA 20 (nthL args 0) termA) (bi (Nat.beq (nthL args 1).tag 3) (bi (Nat.beq (nthL args 2).tag 3) [⟨1, 0, mk1 21 0, H⟩, ⟨1, 0, mk1 22 0, H⟩] (failC 74)) (failC 74)) (failC 74)) (failC 74)
noncomputable def livesN : Native := fun args H => bi (Nat.beq (lenL args) 0) (bi (Nat.beq (hget H 0).kind 1) (bi (eqA 20 (aggV (hget H 0).cs) (aggV kindsL)) [⟨1, 0, bV true, H⟩] (failC 75)) (failC 75)) (failC 75)
theorem AllC.bi {b : Bool} {x : List CRes} {n : Nat} (h : AllC (bi b x (failC n))) : b = true ∧ AllC x := by
  cases b
  · exact (failC_bad h).elim
  · exact ⟨rfl, h⟩
theorem countN_ok : CallOk Tryz.prog 11 countN := by
  intro w0 H φ w args vals hv hr hall
  have hall' : AllC (bi (Nat.beq (lenL args) 3) (bi (eqA 20 (nthL args 0) termA) (bi (Nat.beq (nthL args 1).tag 3) (bi (Nat.beq (nthL args 2).tag 3) [⟨1, 0, mk1 21 0, H⟩, ⟨1, 0, mk1 22 0, H⟩] (failC 74)) (failC 74)) (failC 74)) (failC 74)) := hall
  obtain ⟨g1, hall'⟩ := hall'.bi
  obtain ⟨g2, hall'⟩ := hall'.bi
  obtain ⟨g3, hall'⟩ := hall'.bi
  obtain ⟨g4, hall'⟩ := hall'.bi
  have e : countN args H = [⟨1, 0, mk1 21 0, H⟩, ⟨1, 0, mk1 22 0, H⟩] := by
    show bi (Nat.beq (lenL args) 3) (bi (eqA 20 (nthL args 0) termA) (bi (Nat.beq (nthL args 1).tag 3) (bi (Nat.beq (nthL args 2).tag 3) [⟨1, 0, mk1 21 0, H⟩, ⟨1, 0, mk1 22 0, H⟩] (failC 74)) (failC 74)) (failC 74)) (failC 74) = _
    rw [g1, g2, g3, g4]; rfl
  rw [e]
  have hl := beq_true.1 g1
  rw [lenL_eq] at hl
  obtain ⟨a0, a1, a2, rfl⟩ : ∃ a0 a1 a2, args = [a0, a1, a2] := by
    match args, hl with
    | [a0, a1, a2], _ => exact ⟨a0, a1, a2, rfl⟩
  have e0 : nthL [a0, a1, a2] 0 = a0 := rfl
  have e1 : nthL [a0, a1, a2] 1 = a1 := rfl
  have e2 : nthL [a0, a1, a2] 2 = a2 := rfl
  rw [e0] at g2
  rw [e1] at g3
  rw [e2] at g4
  have ea := eqA_eq _ _ _ g2
  subst ea
  obtain ⟨v0, v1, v2, rfl, h0, h1, h2⟩ : ∃ v0 v1 v2, vals = [v0, v1, v2] ∧ VR φ termA v0 ∧ VR φ a1 v1 ∧ VR φ a2 v2 := by
    cases hv with | cons h0 hv => cases hv with | cons h1 hv => cases hv with | cons h2 hv => cases hv with | nil => exact ⟨_, _, _, rfl, h0, h1, h2⟩
  obtain ⟨l, rfl, hls, _⟩ := h0.of_agg rfl
  obtain ⟨u0, u1, u2, u3, u4, rfl, k0, k1, k2, k3, k4⟩ : ∃ u0 u1 u2 u3 u4, l = [u0, u1, u2, u3, u4] ∧ VR φ (opq 5) u0 ∧ VR φ (opq 5) u1 ∧ VR φ (opq 9) u2 ∧ VR φ (opq 10) u3 ∧ VR φ (opq 58) u4 := by
    have hls' : VRs φ [opq 5, opq 5, opq 9, opq 10, opq 58] l := hls
    cases hls' with | cons k0 h => cases h with | cons k1 h => cases h with | cons k2 h => cases h with | cons k3 h => cases h with | cons k4 h => cases h with | nil => exact ⟨_, _, _, _, _, rfl, k0, k1, k2, k3, k4⟩
  obtain ⟨a, ea⟩ := (k0.of_opq rfl).1.2.1 (by show 2 ≤ 5; omega) (by show 5 < 10; omega)
  obtain ⟨b, eb⟩ := (k1.of_opq rfl).1.2.1 (by show 2 ≤ 5; omega) (by show 5 < 10; omega)
  obtain ⟨c, ec⟩ := (k2.of_opq rfl).1.2.1 (by show 2 ≤ 9; omega) (by show 9 < 10; omega)
  obtain ⟨s, es⟩ := (k3.of_opq rfl).1.2.2.1 rfl
  have ea' : u0 = .int .i64 a := ea
  have eb' : u1 = .int .i64 b := eb
  have ec' : u2 = .int .u64 c := ec
  subst ea' eb' ec' es
  obtain ⟨X, enc, spare, held, fuel, x, hx⟩ := hr.op 26 u4 ((k4.of_opq rfl).1.2.2.2 (by show 32 ≤ 58; omega))
  obtain ⟨A, n, cap, rfl, hR⟩ := rd_of fuel hx
  obtain ⟨ed, _, _⟩ := h1.of_int (c := 3) (by omega) (beq_true.1 g3)
  obtain ⟨el, _, _⟩ := h2.of_int (c := 3) (by omega) (beq_true.1 g4)
  subst ed el
  refine Calls.mono (count_calls hR a b c s cap (valI 3 a1.p) (valI 3 a2.p) w hr.below) fun e' w' he => ?_
  obtain ⟨⟨r, rfl⟩, hb⟩ := he
  by_cases hr0 : r < 0
  · exact ⟨⟨1, 0, mk1 21 0, H⟩, by simp, φ, .neg 0 0 0 0 [] r hr0, hr.later hb, EX.refl H φ⟩
  · exact ⟨⟨1, 0, mk1 22 0, H⟩, by simp, φ, .pos 0 0 0 0 [] r (by omega), hr.later hb, EX.refl H φ⟩
theorem lives_ok (h : isTrueR (evN Tryz.prog nt37 mg37 3000 (mk1 13 5) [] H37) = true) : CallOk Tryz.prog 5 livesN := by
  intro w0 H φ w args vals hv hr hall
  have hall' : AllC (bi (Nat.beq (lenL args) 0) (bi (Nat.beq (hget H 0).kind 1) (bi (eqA 20 (aggV (hget H 0).cs) (aggV kindsL)) [⟨1, 0, bV true, H⟩] (failC 75)) (failC 75)) (failC 75)) := hall
  obtain ⟨g1, hall'⟩ := hall'.bi
  obtain ⟨g2, hall'⟩ := hall'.bi
  obtain ⟨g3, hall'⟩ := hall'.bi
  have e : livesN args H = [⟨1, 0, bV true, H⟩] := by
    show bi (Nat.beq (lenL args) 0) (bi (Nat.beq (hget H 0).kind 1) (bi (eqA 20 (aggV (hget H 0).cs) (aggV kindsL)) [⟨1, 0, bV true, H⟩] (failC 75)) (failC 75)) (failC 75) = _
    rw [g1, g2, g3]; rfl
  rw [e]
  have hl := beq_true.1 g1
  rw [lenL_eq] at hl
  have ha : args = [] := List.length_eq_zero_iff.1 hl
  subst ha
  cases hv
  have hcs : (hget H 0).cs = kindsL := by
    have := congrArg AV.cs (eqA_eq _ _ _ g3)
    exact this
  have hg := fun g (hg : g < 5) => hr.gl g (by rw [glob5]; exact hg)
  have hW : LaidOk w := by
    obtain ⟨_, _, o4, h4, _⟩ := hr.blk 4 4 (hg 4 (by omega))
    obtain ⟨_, _, o, ho, hB⟩ := hr.blk 0 0 (hg 0 (by omega))
    obtain ⟨l, rest, t, rfl, hl, _, _⟩ := hB.cells (beq_true.1 g2)
    rw [hcs] at hl
    exact ⟨(Array.getElem?_eq_some_iff.1 h4).1, l, rest, t, ho, fun φ' => hl.low kinds_low⟩
  refine Calls.mono (calls_of_eval nt37_ok hW .nil h) fun e' w' he => ?_
  obtain ⟨rfl, hb⟩ := he
  exact ⟨⟨1, 0, bV true, H⟩, List.mem_singleton.2 rfl, φ, .bool true 0 0 [], hr.later hb, EX.refl H φ⟩
noncomputable def ntB (f : Nat) : Option Native := bi (Nat.beq f 11) (some countN) (bi (Nat.beq f 5) (some livesN) none)
theorem ntB_ok (h : isTrueR (evN Tryz.prog nt37 mg37 3000 (mk1 13 5) [] H37) = true) : NatOk Tryz.prog ntB := by
  intro f g hf
  unfold ntB at hf
  cases h11 : Nat.beq f 11
  · rw [h11, bi_false] at hf
    cases h5 : Nat.beq f 5
    · rw [h5] at hf; cases hf
    · rw [h5] at hf
      cases hf
      rw [beq_true.1 h5]
      exact lives_ok h
  · rw [h11] at hf
    cases hf
    rw [beq_true.1 h11]
    exact countN_ok
theorem eval_main : isTrueR (evN Tryz.prog ntB (fun _ => false) 300 (mk1 13 3) [opq 54, aggV [opq 5, opq 5], termA] H37) = true := by kernel_rfl
theorem eval_lives : isTrueR (evN Tryz.prog nt37 mg37 3000 (mk1 13 5) [] H37) = true := by kernel_rfl
end Go.Eng
