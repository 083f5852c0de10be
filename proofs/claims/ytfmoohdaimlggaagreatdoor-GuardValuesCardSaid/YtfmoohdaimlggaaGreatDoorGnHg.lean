
/- A part of the proof that the evaluator in GnC, and the driver in GnZ, answer as the model does; no conditions. -/
import Derived.Test.YtfmoohdaimlggaaGreatDoorGnHf
import Derived.Test.YtfmoohdaimlggaaGreatDoorGnH28
namespace Go.Eng
open Go.RowKit Go.Proofs
/-! guard.Fits and the reference's -/
noncomputable section
def ftT (k aw : Nat) (b : Tm) (w z o l h : Nat) (nl : List AV) : Bool := (vlT nl b).2 && (decide (w = aw) && (if k = 3 then decide ((vlT nl b).1 &&& sp_n2 w z o l h = (vlT nl b).1) else if k = 4 then decide (sp_n5 w z o l h < (vlT nl b).1) else false))
def sp_ft (x f : AV) (nl : List AV) : Bool := ftT (gk x) (ga x).w (gb x) (nthL f.cs 0).p (nthL f.cs 1).p (nthL f.cs 2).p (nthL f.cs 3).p (nthL f.cs 4).p nl
def sp_lt (x : AV) : Bool := lightB (ga x) 12 20 && lightB (gb x) 12 20
def sp_fw (l : List AV) : Bool := fewB (l.map unB)
def NtGv (lv : Nat × Native) : Nat → Option Native := ntL [lv, (5, natP Tryz.prog 5 [28] fun l => bV (sp_lt (nthL l 0))), (9, natP Tryz.prog 9 [46] fun l => bV (sp_fw (nthL (nthL l 0).cs 2).cs)), vN 10, vN 11, (12, natP Tryz.prog 12 [28, 40, 41] fun l => bV (sp_ft (nthL l 0) (nthL l 1) (nthL l 2).cs)), (13, natP Tryz.prog 13 [28, 40, 41] fun l => bV (sp_ft (nthL l 0) (nthL l 1) (nthL l 2).cs))]
end
theorem s12 (J : Jmp) (k ao aw av aq an ap bo bw bv bq bn bp w z o l h np : Nat) (al bl nl : List AV) : (compY Tryz.prog 49 (fun _ => none) (finY Tryz.prog [.tmp 6] [4]) J [] (bodyC Tryz.f12) (finY Tryz.prog [.tmp 6] [4]) []).run RFt (setArgs 0 [aggV [i64 k, i64 ao, i64 aw, u64 av, stA aq an, slP ap 5 al, i64 bo, i64 bw, u64 bv, stA bq bn, slP bp 5 bl], aggV [i64 w, u64 z, u64 o, u64 l, u64 h], slP np 2 nl] noFr) (baseH Tryz.prog) =
  (bi (nbeq (okN (PureAt Tryz.prog 10 [⟨15, 0, 0, 0, 0, [(i64 bo), (i64 bw), (u64 bv), (stA bq bn), ⟨24, bp, 0, 5, 0, bl⟩]⟩, ⟨24, np, 0, 2, 0, nl⟩] ⟨16, 0, 0, 0, 0, [⟨7, sp_vv (unTm ⟨15, 0, 0, 0, 0, [(i64 bo), (i64 bw), (u64 bv), (stA bq bn), ⟨24, bp, 0, 5, 0, bl⟩]⟩) nl, 0, 0, 0, []⟩, ⟨8, bi (sp_vb (unTm ⟨15, 0, 0, 0, 0, [(i64 bo), (i64 bw), (u64 bv), (stA bq bn), ⟨24, bp, 0, 5, 0, bl⟩]⟩) nl) 1 0, 0, 0, 0, []⟩]⟩)) 1)
 (bi (nbeq (Nat.sub 1 (bi (sp_vb (unTm ⟨15, 0, 0, 0, 0, [(i64 bo), (i64 bw), (u64 bv), (stA bq bn), ⟨24, bp, 0, 5, 0, bl⟩]⟩) nl) 1 0)) 0)
 (bi (nbeq (bi (nb (nbeq w aw)) 1 0) 1)
 (ansY (mk1 8 0))
 (bi (nbeq (okN (PureAt Tryz.prog 34 [(aggV [(i64 w), (u64 z), (u64 o), (u64 l), (u64 h)])] (mk1 8 (bi (sp_vd w z o l h) 1 0)))) 1)
 (bi (nbeq (Nat.sub 1 (bi (sp_vd w z o l h) 1 0)) 1)
 (bi (nbeq (okN (PureAt Tryz.prog 35 [(i64 w)] (aggV [(i64 (clampN w)), (u64 0), (u64 0), (u64 0), (u64 (maskN w))]))) 1)
 (bi (nbeq (bi (nbeq k 3) 1 0) 1)
 (ansY ⟨8, bi (nbeq (g_andn (sp_vv (unTm ⟨15, 0, 0, 0, 0, [(i64 bo), (i64 bw), (u64 bv), (stA bq bn), ⟨24, bp, 0, 5, 0, bl⟩]⟩) nl) 0) 0) 1 0, 0, 0, 0, []⟩)
 (bi (nbeq (bi (nbeq k 4) 1 0) 1)
 (ansY ⟨8, bi (nb (nble (biased 7 (sp_vv (unTm ⟨15, 0, 0, 0, 0, [(i64 bo), (i64 bw), (u64 bv), (stA bq bn), ⟨24, bp, 0, 5, 0, bl⟩]⟩) nl)) (biased 7 (maskN w)))) 1 0, 0, 0, 0, []⟩)
 (ansY (mk1 8 0))))
 (failR 301))
 (bi (nbeq (bi (nbeq k 3) 1 0) 1)
 (ansY ⟨8, bi (nbeq (g_andn (sp_vv (unTm ⟨15, 0, 0, 0, 0, [(i64 bo), (i64 bw), (u64 bv), (stA bq bn), ⟨24, bp, 0, 5, 0, bl⟩]⟩) nl) z) 0) 1 0, 0, 0, 0, []⟩)
 (bi (nbeq (bi (nbeq k 4) 1 0) 1)
 (ansY ⟨8, bi (nb (nble (biased 7 (sp_vv (unTm ⟨15, 0, 0, 0, 0, [(i64 bo), (i64 bw), (u64 bv), (stA bq bn), ⟨24, bp, 0, 5, 0, bl⟩]⟩) nl)) (biased 7 h))) 1 0, 0, 0, 0, []⟩)
 (ansY (mk1 8 0)))))
 (failR 301)))
 (ansY (mk1 8 0)))
 (failR 301)) := by kernel_rfl
theorem s13 (J : Jmp) (k ao aw av aq an ap bo bw bv bq bn bp w z o l h np : Nat) (al bl nl : List AV) : (compY Tryz.prog 46 (fun _ => none) (finY Tryz.prog [.tmp 6] [4]) J [] (bodyC Tryz.f13) (finY Tryz.prog [.tmp 6] [4]) []).run RFt (setArgs 0 [aggV [i64 k, i64 ao, i64 aw, u64 av, stA aq an, slP ap 5 al, i64 bo, i64 bw, u64 bv, stA bq bn, slP bp 5 bl], aggV [i64 w, u64 z, u64 o, u64 l, u64 h], slP np 2 nl] noFr) (baseH Tryz.prog) =
  (bi (nbeq (okN (PureAt Tryz.prog 11 [⟨15, 0, 0, 0, 0, [(i64 bo), (i64 bw), (u64 bv), (stA bq bn), ⟨24, bp, 0, 5, 0, bl⟩]⟩, ⟨24, np, 0, 2, 0, nl⟩] ⟨16, 0, 0, 0, 0, [⟨7, sp_vv (unTm ⟨15, 0, 0, 0, 0, [(i64 bo), (i64 bw), (u64 bv), (stA bq bn), ⟨24, bp, 0, 5, 0, bl⟩]⟩) nl, 0, 0, 0, []⟩, ⟨8, bi (sp_vb (unTm ⟨15, 0, 0, 0, 0, [(i64 bo), (i64 bw), (u64 bv), (stA bq bn), ⟨24, bp, 0, 5, 0, bl⟩]⟩) nl) 1 0, 0, 0, 0, []⟩]⟩)) 1)
 (bi (nbeq (Nat.sub 1 (bi (sp_vb (unTm ⟨15, 0, 0, 0, 0, [(i64 bo), (i64 bw), (u64 bv), (stA bq bn), ⟨24, bp, 0, 5, 0, bl⟩]⟩) nl) 1 0)) 0)
 (bi (nbeq (bi (nb (nbeq w aw)) 1 0) 1)
 (ansY (mk1 8 0))
 (bi (nbeq (okN (PureAt Tryz.prog 36 [(aggV [(i64 w), (u64 z), (u64 o), (u64 l), (u64 h)])] (aggV [(i64 (sp_n1 w z o l h)), (u64 (sp_n2 w z o l h)), (u64 (sp_n3 w z o l h)), (u64 (sp_n4 w z o l h)), (u64 (sp_n5 w z o l h))]))) 1)
 (bi (nbeq (bi (nbeq k 3) 1 0) 1)
 (ansY ⟨8, bi (nbeq (g_and (sp_vv (unTm ⟨15, 0, 0, 0, 0, [(i64 bo), (i64 bw), (u64 bv), (stA bq bn), ⟨24, bp, 0, 5, 0, bl⟩]⟩) nl) (sp_n2 w z o l h)) (sp_vv (unTm ⟨15, 0, 0, 0, 0, [(i64 bo), (i64 bw), (u64 bv), (stA bq bn), ⟨24, bp, 0, 5, 0, bl⟩]⟩) nl)) 1 0, 0, 0, 0, []⟩)
 (bi (nbeq (bi (nbeq k 4) 1 0) 1)
 (ansY ⟨8, bi (nb (nble (biased 7 (sp_vv (unTm ⟨15, 0, 0, 0, 0, [(i64 bo), (i64 bw), (u64 bv), (stA bq bn), ⟨24, bp, 0, 5, 0, bl⟩]⟩) nl)) (biased 7 (sp_n5 w z o l h)))) 1 0, 0, 0, 0, []⟩)
 (ansY (mk1 8 0))))
 (failR 301)))
 (ansY (mk1 8 0)))
 (failR 301)) := by kernel_rfl
theorem body12 : Tryz.f12.body = some (bodyC Tryz.f12) := by kernel_rfl
theorem fn12 : Tryz.prog.funcs[12]? = some Tryz.f12 := by kernel_rfl
theorem nt12 : Tryz.f12.ntmps = 49 := by kernel_rfl
theorem rs12 : Tryz.f12.results.toList = [.tmp 6] := by kernel_rfl
theorem body13 : Tryz.f13.body = some (bodyC Tryz.f13) := by kernel_rfl
theorem fn13 : Tryz.prog.funcs[13]? = some Tryz.f13 := by kernel_rfl
theorem nt13 : Tryz.f13.ntmps = 46 := by kernel_rfl
theorem rs13 : Tryz.f13.results.toList = [.tmp 6] := by kernel_rfl
theorem andn_sup {x z : Nat} (hx : x < 2 ^ 64) (hz : z < 2 ^ 64) : g_andn x z = 0 ↔ x &&& z = x := by
  rw [g_andn_eq]
  have ht : ∀ i, (x &&& (2 ^ 64 - 1 - z)).testBit i = (x.testBit i && !z.testBit i) := by
    intro i
    rw [Nat.testBit_and, show 2 ^ 64 - 1 - z = 2 ^ 64 - (z + 1) by omega, Nat.testBit_two_pow_sub_succ hz]
    by_cases hi : i < 64
    · rw [decide_eq_true hi, Bool.true_and]
    · have : x.testBit i = false := Nat.testBit_lt_two_pow (Nat.lt_of_lt_of_le hx (Nat.pow_le_pow_right (by decide) (by omega)))
      rw [this, Bool.false_and, Bool.false_and]
  constructor
  · intro h
    refine Nat.eq_of_testBit_eq fun i => ?_
    have h3 := ht i
    rw [h, Nat.zero_testBit] at h3
    rw [Nat.testBit_and]
    cases hb : x.testBit i
    · rfl
    · rw [hb] at h3
      cases hc : z.testBit i
      · rw [hc] at h3; cases h3
      · rfl
  · intro h
    refine Nat.eq_of_testBit_eq fun i => ?_
    rw [ht, Nat.zero_testBit]
    have h3 := congrArg (fun y => Nat.testBit y i) h
    simp only [Nat.testBit_and] at h3
    cases hb : x.testBit i
    · rfl
    · rw [hb] at h3
      cases hc : z.testBit i
      · rw [hc] at h3; cases h3
      · rfl
theorem n5_lt {w z o l h : Nat} (hw : w < 2 ^ 64) (hh : h < 2 ^ 64) : sp_n5 w z o l h < 2 ^ 64 := by unfold sp_n5; cases sp_vd w z o l h; exact mask_lt hw; exact hh
theorem fit_end (k aw : Nat) (b : Tm) (w z o l h : Nat) (nl : List AV) (hb : (vlT nl b).1 < 2 ^ 64) (hh : sp_n5 w z o l h < 2 ^ 64) (X : RL) (hX : X = bi (nbeq k 3) (ansY (bV (decide ((vlT nl b).1 &&& sp_n2 w z o l h = (vlT nl b).1)))) (bi (nbeq k 4) (ansY (mk1 8 (bi (nb (nble (biased 7 (vlT nl b).1) (biased 7 (sp_n5 w z o l h)))) 1 0))) (ansY (mk1 8 0)))) : bi (vlT nl b).2 (bi (nbeq w aw) X (ansY (mk1 8 0))) (ansY (mk1 8 0)) = ansY (bV (ftT k aw b w z o l h nl)) := by
  subst hX
  unfold ftT
  cases (vlT nl b).2
  · rfl
  · rw [bi_tt, nbeq_dec, nbeq_dec, nbeq_dec]
    by_cases h1 : w = aw
    · rw [decide_eq_true h1, bi_tt]
      by_cases h3 : k = 3
      · rw [decide_eq_true h3, bi_tt, if_pos h3]; rfl
      · rw [decide_eq_false h3, bi_ff, if_neg h3]
        by_cases h4 : k = 4
        · rw [decide_eq_true h4, bi_tt, if_pos h4, biased7 hb, biased7 hh, nble_dec]
          have : nb (decide ((vlT nl b).1 ≤ sp_n5 w z o l h)) = decide (sp_n5 w z o l h < (vlT nl b).1) := by
            by_cases h5 : (vlT nl b).1 ≤ sp_n5 w z o l h
            · rw [decide_eq_true h5, decide_eq_false (by omega)]; rfl
            · rw [decide_eq_false h5, decide_eq_true (by omega)]; rfl
          rw [this]; rfl
        · rw [decide_eq_false h4, if_neg h4]; rfl
    · rw [decide_eq_false h1]; rfl
theorem pure12 (k : Nat) (a b : Tm) (w z o l h np : Nat) (nl : List Bd) (hsm : b.Sm 400) (hok : b.ok) (hw : w < 2 ^ 64) (hz : z < 2 ^ 64) (ho : o < 2 ^ 64) (hl : l < 2 ^ 64) (hh : h < 2 ^ 64) (hn : nl.length < 2 ^ 62) (hn2 : ∀ x ∈ nl, x.2.2 < 2 ^ 64) : PureAt Tryz.prog 12 [gdA k a b, fcA w z o l h, slP np 2 (nl.map bdA)] (bV (ftT k a.w b w z o l h (nl.map bdA))) := by
  show PureAt Tryz.prog 12 [aggV [i64 k, i64 a.op, i64 a.w, u64 a.v, stA a.nq a.np, slP a.p 5 (a.as.map tmA), i64 b.op, i64 b.w, u64 b.v, stA b.nq b.np, slP b.p 5 (b.as.map tmA)], aggV [i64 w, u64 z, u64 o, u64 l, u64 h], slP np 2 (nl.map bdA)] _
  refine pure_fn mixed globs fn12 body12 nt12 rs12 RFt_ok (fun _ => none) [4] 0 ((s12 _ k a.op a.w a.v a.nq a.np a.p b.op b.w b.v b.nq b.np b.p w z o l h np _ _ _).trans ?_)
  have hb := (vl_lt (nl.map bdA) b hok).1
  have q : okN (PureAt Tryz.prog 10 [tmA b, slP np 2 (nl.map bdA)] (lsD 0 [u64 (vlT (nl.map bdA) b).1, ⟨8, bi (vlT (nl.map bdA) b).2 1 0, 0, 0, 0, []⟩])) = 1 := okN_one.2 (pure10 np nl hn hn2 400 b hsm (Nat.le_refl _) hok)
  have q34 : PureAt Tryz.prog 34 [aggV [i64 w, u64 z, u64 o, u64 l, u64 h]] (mk1 8 (bi (sp_vd w z o l h) 1 0)) := pure34 w z o l h hw hz ho hl hh
  have q35 : PureAt Tryz.prog 35 [i64 w] (aggV [i64 (clampN w), u64 0, u64 0, u64 0, u64 (maskN w)]) := pure35 w hw
  simp only [mk_i64, mk_u64, mk_stA, mk_slP, mk_agg, mk_tm, mk_ls, unTm_A, bS]
  rw [show sp_vv b (nl.map bdA) = (vlT (nl.map bdA) b).1 from rfl, show sp_vb b (nl.map bdA) = (vlT (nl.map bdA) b).2 from rfl, q, n11, bi_tt, okN_bi q34, okN_bi q35]
  refine Eq.trans ?_ (fit_end k a.w b w z o l h (nl.map bdA) hb (n5_lt hw hh) _ rfl)
  unfold sp_n2 sp_n5
  rw [← decide_eq_decide.2 (andn_sup hb (z := bi (sp_vd w z o l h) z 0) (by cases sp_vd w z o l h; exact (by decide : (0 : Nat) < 2 ^ 64); exact hz))]
  rw [← nbeq_dec]
  generalize (vlT (nl.map bdA) b).2 = c1
  generalize nbeq w a.w = c2
  generalize nbeq k 3 = c3
  generalize nbeq k 4 = c4
  cases sp_vd w z o l h <;> cases c1 <;> cases c2 <;> cases c3 <;> cases c4 <;> rfl
theorem pure13 (k : Nat) (a b : Tm) (w z o l h np : Nat) (nl : List Bd) (hsm : b.Sm 400) (hok : b.ok) (hw : w < 2 ^ 64) (hz : z < 2 ^ 64) (ho : o < 2 ^ 64) (hl : l < 2 ^ 64) (hh : h < 2 ^ 64) (hn : nl.length < 2 ^ 62) (hn2 : ∀ x ∈ nl, x.2.2 < 2 ^ 64) : PureAt Tryz.prog 13 [gdA k a b, fcA w z o l h, slP np 2 (nl.map bdA)] (bV (ftT k a.w b w z o l h (nl.map bdA))) := by
  show PureAt Tryz.prog 13 [aggV [i64 k, i64 a.op, i64 a.w, u64 a.v, stA a.nq a.np, slP a.p 5 (a.as.map tmA), i64 b.op, i64 b.w, u64 b.v, stA b.nq b.np, slP b.p 5 (b.as.map tmA)], aggV [i64 w, u64 z, u64 o, u64 l, u64 h], slP np 2 (nl.map bdA)] _
  refine pure_fn mixed globs fn13 body13 nt13 rs13 RFt_ok (fun _ => none) [4] 0 ((s13 _ k a.op a.w a.v a.nq a.np a.p b.op b.w b.v b.nq b.np b.p w z o l h np _ _ _).trans ?_)
  have hb := (vl_lt (nl.map bdA) b hok).1
  have q : okN (PureAt Tryz.prog 11 [tmA b, slP np 2 (nl.map bdA)] (lsD 0 [u64 (vlT (nl.map bdA) b).1, ⟨8, bi (vlT (nl.map bdA) b).2 1 0, 0, 0, 0, []⟩])) = 1 := okN_one.2 (pure11 np nl hn hn2 400 b hsm (Nat.le_refl _) hok)
  have q36 : PureAt Tryz.prog 36 [aggV [i64 w, u64 z, u64 o, u64 l, u64 h]] (aggV [i64 (sp_n1 w z o l h), u64 (sp_n2 w z o l h), u64 (sp_n3 w z o l h), u64 (sp_n4 w z o l h), u64 (sp_n5 w z o l h)]) := pure36 w z o l h hw hz ho hl hh
  simp only [mk_i64, mk_u64, mk_stA, mk_slP, mk_agg, mk_tm, mk_ls, unTm_A, bS]
  rw [show sp_vv b (nl.map bdA) = (vlT (nl.map bdA) b).1 from rfl, show sp_vb b (nl.map bdA) = (vlT (nl.map bdA) b).2 from rfl, q, n11, bi_tt, okN_bi q36, g_and_eq, nbeq_dec ((vlT (nl.map bdA) b).1 &&& _)]
  refine Eq.trans ?_ (fit_end k a.w b w z o l h (nl.map bdA) hb (n5_lt hw hh) _ rfl)
  generalize (vlT (nl.map bdA) b).2 = c1
  generalize nbeq w a.w = c2
  generalize nbeq k 3 = c3
  generalize nbeq k 4 = c4
  cases c1 <;> cases c2 <;> cases c3 <;> cases c4 <;> rfl
end Go.Eng
namespace Go.Eng
open Go.RowKit Go.Proofs
noncomputable section
def RGv : Rec := evN Tryz.prog (NtGv (6, livesN LA)) (fun _ => false) 2
end
theorem fn310 : Tryz.prog.funcs[310]? = some Tryz.f310 := by kernel_rfl
theorem ext310 : ExtOk Tryz.prog 310 add64N := add64_ok fn310 (by kernel_rfl) (by kernel_rfl) (by kernel_rfl) (by kernel_rfl)
theorem globsA : Tryz.prog.globals.size = 4 := by kernel_rfl
theorem LA_lt : ∀ g ∈ LA, g.1 < Tryz.prog.globals.size := by
  have h : (LA.all fun g => nble (Nat.succ g.1) 4) = true := by kernel_rfl
  intro g hg
  rw [globsA]
  exact ble_true.1 (List.all_eq_true.1 h g hg)
theorem LA_low : ∀ g ∈ LA, ∀ c ∈ g.2, c.tag < 10 := by
  have h : (LA.all fun g => g.2.all fun c => nble (Nat.succ c.tag) 10) = true := by kernel_rfl
  intro g hg c hc
  exact ble_true.1 (List.all_eq_true.1 (List.all_eq_true.1 h g hg) c hc)
theorem fnlv : ∃ fn, Tryz.prog.funcs[6]? = some fn ∧ fn.body.isNone = false := ⟨Tryz.f6, by kernel_rfl, by kernel_rfl⟩
theorem RGv_ok : RecOk Tryz.prog RGv := evN_ok mixed (ntL_consN (livesN_ok mixed noGor (ntL_consX ext310 ntL_nil) globs LA_lt LA_low fnlv eval_lives) (by repeat (first | exact ntL_nil | refine ntL_cons ?_))) noGor 2
end Go.Eng
namespace Go.Eng
open Go.RowKit Go.Proofs
theorem s4 (J : Jmp) (k ao aw av aq an ap bo bw bv bq bn bp w z o l h np : Nat) (al bl nl : List AV) : (compY Tryz.prog 57 (fun _ => none) (finY Tryz.prog [.tmp 6] [4]) J [] (bodyC Tryz.f4) (finY Tryz.prog [.tmp 6] [4]) []).run RGv (setArgs 0 [aggV [i64 k, i64 ao, i64 aw, u64 av, stA aq an, slP ap 5 al, i64 bo, i64 bw, u64 bv, stA bq bn, slP bp 5 bl], aggV [i64 w, u64 z, u64 o, u64 l, u64 h], slP np 2 nl] noFr) (globH Tryz.prog LA) =
  (bi (nbeq (okN (PureAt Tryz.prog 5 [⟨15, 0, 0, 0, 0, [(i64 k), (i64 ao), (i64 aw), (u64 av), (stA aq an), ⟨24, ap, 0, 5, 0, al⟩, (i64 bo), (i64 bw), (u64 bv), (stA bq bn), ⟨24, bp, 0, 5, 0, bl⟩]⟩] ⟨8, bi (sp_lt ⟨15, 0, 0, 0, 0, [(i64 k), (i64 ao), (i64 aw), (u64 av), (stA aq an), ⟨24, ap, 0, 5, 0, al⟩, (i64 bo), (i64 bw), (u64 bv), (stA bq bn), ⟨24, bp, 0, 5, 0, bl⟩]⟩) 1 0, 0, 0, 0, []⟩)) 1)
 (bi (nbeq (Nat.sub 1 (bi (sp_lt ⟨15, 0, 0, 0, 0, [(i64 k), (i64 ao), (i64 aw), (u64 av), (stA aq an), ⟨24, ap, 0, 5, 0, al⟩, (i64 bo), (i64 bw), (u64 bv), (stA bq bn), ⟨24, bp, 0, 5, 0, bl⟩]⟩) 1 0)) 0)
 (bi (nbeq (okN (PureAt Tryz.prog 9 [⟨15, 0, 0, 0, 0, [(slP 0 1 []), (slP 0 2 []), ⟨24, np, 0, 2, 0, nl⟩]⟩] (mk1 8 (bi (sp_fw nl) 1 0)))) 1)
 (bi (nbeq (Nat.sub 1 (bi (sp_fw nl) 1 0)) 1)
 (ansY (mk1 8 1))
 (bi (nbeq (okN (PureAt Tryz.prog 10 [⟨15, 0, 0, 0, 0, [(i64 ao), (i64 aw), (u64 av), (stA aq an), ⟨24, ap, 0, 5, 0, al⟩]⟩, ⟨24, np, 0, 2, 0, nl⟩] ⟨16, 0, 0, 0, 0, [⟨7, sp_vv (unTm ⟨15, 0, 0, 0, 0, [(i64 ao), (i64 aw), (u64 av), (stA aq an), ⟨24, ap, 0, 5, 0, al⟩]⟩) nl, 0, 0, 0, []⟩, ⟨8, bi (sp_vb (unTm ⟨15, 0, 0, 0, 0, [(i64 ao), (i64 aw), (u64 av), (stA aq an), ⟨24, ap, 0, 5, 0, al⟩]⟩) nl) 1 0, 0, 0, 0, []⟩]⟩)) 1)
 (bi (nbeq (okN (PureAt Tryz.prog 11 [⟨15, 0, 0, 0, 0, [(i64 ao), (i64 aw), (u64 av), (stA aq an), ⟨24, ap, 0, 5, 0, al⟩]⟩, ⟨24, np, 0, 2, 0, nl⟩] ⟨16, 0, 0, 0, 0, [⟨7, sp_vv (unTm ⟨15, 0, 0, 0, 0, [(i64 ao), (i64 aw), (u64 av), (stA aq an), ⟨24, ap, 0, 5, 0, al⟩]⟩) nl, 0, 0, 0, []⟩, ⟨8, bi (sp_vb (unTm ⟨15, 0, 0, 0, 0, [(i64 ao), (i64 aw), (u64 av), (stA aq an), ⟨24, ap, 0, 5, 0, al⟩]⟩) nl) 1 0, 0, 0, 0, []⟩]⟩)) 1)
 (bi (nbeq (bi (nbeq (sp_vv (unTm ⟨15, 0, 0, 0, 0, [(i64 ao), (i64 aw), (u64 av), (stA aq an), ⟨24, ap, 0, 5, 0, al⟩]⟩) nl) (sp_vv (unTm ⟨15, 0, 0, 0, 0, [(i64 ao), (i64 aw), (u64 av), (stA aq an), ⟨24, ap, 0, 5, 0, al⟩]⟩) nl)) 1 0) 1)
 (bi (nbeq (bi (nbeq (bi (sp_vb (unTm ⟨15, 0, 0, 0, 0, [(i64 ao), (i64 aw), (u64 av), (stA aq an), ⟨24, ap, 0, 5, 0, al⟩]⟩) nl) 1 0) (bi (sp_vb (unTm ⟨15, 0, 0, 0, 0, [(i64 ao), (i64 aw), (u64 av), (stA aq an), ⟨24, ap, 0, 5, 0, al⟩]⟩) nl) 1 0)) 1 0) 1)
 (bi (nbeq (okN (PureAt Tryz.prog 12 [⟨15, 0, 0, 0, 0, [(i64 k), (i64 ao), (i64 aw), (u64 av), (stA aq an), ⟨24, ap, 0, 5, 0, al⟩, (i64 bo), (i64 bw), (u64 bv), (stA bq bn), ⟨24, bp, 0, 5, 0, bl⟩]⟩, (aggV [(i64 w), (u64 z), (u64 o), (u64 l), (u64 h)]), ⟨24, np, 0, 2, 0, nl⟩] ⟨8, bi (sp_ft ⟨15, 0, 0, 0, 0, [(i64 k), (i64 ao), (i64 aw), (u64 av), (stA aq an), ⟨24, ap, 0, 5, 0, al⟩, (i64 bo), (i64 bw), (u64 bv), (stA bq bn), ⟨24, bp, 0, 5, 0, bl⟩]⟩ (aggV [(i64 w), (u64 z), (u64 o), (u64 l), (u64 h)]) nl) 1 0, 0, 0, 0, []⟩)) 1)
 (bi (eqA 1000 ⟨24, np, 0, 2, 0, nl⟩ ⟨24, np, 0, 2, 0, nl⟩)
 (bi (eqA 1000 (aggV [(i64 w), (u64 z), (u64 o), (u64 l), (u64 h)]) (aggV [(i64 w), (u64 z), (u64 o), (u64 l), (u64 h)]))
 (bi (eqA 1000 ⟨15, 0, 0, 0, 0, [(i64 k), (i64 ao), (i64 aw), (u64 av), (stA aq an), ⟨24, ap, 0, 5, 0, al⟩, (i64 bo), (i64 bw), (u64 bv), (stA bq bn), ⟨24, bp, 0, 5, 0, bl⟩]⟩ ⟨15, 0, 0, 0, 0, [(i64 k), (i64 ao), (i64 aw), (u64 av), (stA aq an), ⟨24, ap, 0, 5, 0, al⟩, (i64 bo), (i64 bw), (u64 bv), (stA bq bn), ⟨24, bp, 0, 5, 0, bl⟩]⟩)
 (bi (nbeq (okN (PureAt Tryz.prog 13 [⟨15, 0, 0, 0, 0, [(i64 k), (i64 ao), (i64 aw), (u64 av), (stA aq an), ⟨24, ap, 0, 5, 0, al⟩, (i64 bo), (i64 bw), (u64 bv), (stA bq bn), ⟨24, bp, 0, 5, 0, bl⟩]⟩, (aggV [(i64 w), (u64 z), (u64 o), (u64 l), (u64 h)]), ⟨24, np, 0, 2, 0, nl⟩] ⟨8, bi (sp_ft ⟨15, 0, 0, 0, 0, [(i64 k), (i64 ao), (i64 aw), (u64 av), (stA aq an), ⟨24, ap, 0, 5, 0, al⟩, (i64 bo), (i64 bw), (u64 bv), (stA bq bn), ⟨24, bp, 0, 5, 0, bl⟩]⟩ (aggV [(i64 w), (u64 z), (u64 o), (u64 l), (u64 h)]) nl) 1 0, 0, 0, 0, []⟩)) 1)
 (bi (nbeq (bi (nbeq (bi (sp_ft ⟨15, 0, 0, 0, 0, [(i64 k), (i64 ao), (i64 aw), (u64 av), (stA aq an), ⟨24, ap, 0, 5, 0, al⟩, (i64 bo), (i64 bw), (u64 bv), (stA bq bn), ⟨24, bp, 0, 5, 0, bl⟩]⟩ (aggV [(i64 w), (u64 z), (u64 o), (u64 l), (u64 h)]) nl) 1 0) (bi (sp_ft ⟨15, 0, 0, 0, 0, [(i64 k), (i64 ao), (i64 aw), (u64 av), (stA aq an), ⟨24, ap, 0, 5, 0, al⟩, (i64 bo), (i64 bw), (u64 bv), (stA bq bn), ⟨24, bp, 0, 5, 0, bl⟩]⟩ (aggV [(i64 w), (u64 z), (u64 o), (u64 l), (u64 h)]) nl) 1 0)) 1 0) 1)
 (ansY (mk1 8 1))
 (bi (nbeq (bi (nbeq (bi (sp_ft ⟨15, 0, 0, 0, 0, [(i64 k), (i64 ao), (i64 aw), (u64 av), (stA aq an), ⟨24, ap, 0, 5, 0, al⟩, (i64 bo), (i64 bw), (u64 bv), (stA bq bn), ⟨24, bp, 0, 5, 0, bl⟩]⟩ (aggV [(i64 w), (u64 z), (u64 o), (u64 l), (u64 h)]) nl) 1 0) (bi (sp_ft ⟨15, 0, 0, 0, 0, [(i64 k), (i64 ao), (i64 aw), (u64 av), (stA aq an), ⟨24, ap, 0, 5, 0, al⟩, (i64 bo), (i64 bw), (u64 bv), (stA bq bn), ⟨24, bp, 0, 5, 0, bl⟩]⟩ (aggV [(i64 w), (u64 z), (u64 o), (u64 l), (u64 h)]) nl) 1 0)) 1 0) 0)
 (ansY (mk1 8 0))
 (failR 40)))
 (failR 301))
 (failR 90))
 (failR 90))
 (failR 90))
 (failR 301))
 (bi (nbeq (bi (nbeq (bi (sp_vb (unTm ⟨15, 0, 0, 0, 0, [(i64 ao), (i64 aw), (u64 av), (stA aq an), ⟨24, ap, 0, 5, 0, al⟩]⟩) nl) 1 0) (bi (sp_vb (unTm ⟨15, 0, 0, 0, 0, [(i64 ao), (i64 aw), (u64 av), (stA aq an), ⟨24, ap, 0, 5, 0, al⟩]⟩) nl) 1 0)) 1 0) 0)
 (ansY (mk1 8 0))
 (failR 40)))
 (bi (nbeq (bi (nbeq (sp_vv (unTm ⟨15, 0, 0, 0, 0, [(i64 ao), (i64 aw), (u64 av), (stA aq an), ⟨24, ap, 0, 5, 0, al⟩]⟩) nl) (sp_vv (unTm ⟨15, 0, 0, 0, 0, [(i64 ao), (i64 aw), (u64 av), (stA aq an), ⟨24, ap, 0, 5, 0, al⟩]⟩) nl)) 1 0) 0)
 (ansY (mk1 8 0))
 (failR 40)))
 (failR 301))
 (failR 301)))
 (failR 301))
 (ansY (mk1 8 1)))
 (failR 301)) := by kernel_rfl
theorem body4 : Tryz.f4.body = some (bodyC Tryz.f4) := by kernel_rfl
theorem fn4 : Tryz.prog.funcs[4]? = some Tryz.f4 := by kernel_rfl
theorem nt4 : Tryz.f4.ntmps = 57 := by kernel_rfl
theorem rs4 : Tryz.f4.results.toList = [.tmp 6] := by kernel_rfl
theorem len_of_cnt : ∀ (t : Tm) (d n k : Nat), cnt t d n = some k → d ≤ 1000 → n ≤ 1000 → t.Sm d := by
  intro t
  induction t using Tm.ind with
  | h op w v nq np p l ih =>
    intro d n k h hd hn
    rw [cnt] at h
    split at h
    · cases h
    · rename_i h0
      obtain ⟨m, rfl⟩ : ∃ m, d = m + 1 := ⟨d - 1, by omega⟩
      have key : ∀ (l : List Tm) (n k : Nat), cnts l m n = some k → n ≤ 1000 → (∀ t ∈ l, ∀ d n k, cnt t d n = some k → d ≤ 1000 → n ≤ 1000 → t.Sm d) → l.length + k ≤ n ∧ ∀ t ∈ l, t.Sm m := by
        intro l
        induction l with
        | nil => intro n k h _ _; rw [cnts] at h; cases h; exact ⟨by simp, fun t ht => by cases ht⟩
        | cons a l ihl =>
          intro n k h hn ht
          rw [cnts] at h
          cases hc : cnt a m n with
          | none => rw [hc] at h; cases h
          | some j =>
            rw [hc] at h
            have hj : j < n := by
              obtain ⟨op, w, v, nq, np, p, bs⟩ := a
              rw [cnt] at hc
              split at hc
              · cases hc
              · have := cnts_le _ _ _ _ hc
                omega
            obtain ⟨g1, g2⟩ := ihl j k h (by omega) fun t h => ht t (by simp [h])
            refine ⟨by simp only [List.length_cons]; omega, fun t h => ?_⟩
            rcases List.mem_cons.1 h with rfl | h
            · exact ht t (by simp) m n j hc (by omega) hn
            · exact g2 t h
      have h' : cnts l m (n - 1) = some k := by simpa using h
      obtain ⟨g1, g2⟩ := key l (n - 1) k h' (by omega) ih
      exact .mk (by omega) g2
theorem Tm.Sm.up {t : Tm} : ∀ {d : Nat}, t.Sm d → ∀ {e : Nat}, d ≤ e → t.Sm e := by
  induction t using Tm.ind with
  | h op w v nq np p l ih =>
    intro d h e he
    cases h with
    | mk h1 h2 =>
      obtain ⟨m, rfl⟩ : ∃ m, e = m + 1 := ⟨e - 1, by omega⟩
      exact .mk h1 fun t ht => ih t ht (h2 t ht) (by omega)
theorem Tm.Sm.len {t : Tm} {d : Nat} (h : t.Sm d) : Len63 t := by
  induction h with
  | mk h1 _ ih => exact .mk (by omega) ih
theorem sm_light {t : Tm} (h : lightB t 12 20 = true) : t.Sm 12 := by
  unfold lightB at h
  cases hc : cnt t 12 20 with
  | none => rw [hc] at h; cases h
  | some k => exact len_of_cnt t 12 20 k hc (by omega) (by omega)
theorem Tm.ok.len {t : Tm} (h : t.ok) : Len63 t := by
  have hr : reachBytes < 2 ^ 48 := by decide +kernel
  induction h with
  | mk h1 _ ih => exact .mk (by have := h1.2.2.2.2.2; omega) ih
theorem mk_gd (k : Nat) (a b : Tm) : aggV [i64 k, i64 a.op, i64 a.w, u64 a.v, stA a.nq a.np, slP a.p 5 (a.as.map tmA), i64 b.op, i64 b.w, u64 b.v, stA b.nq b.np, slP b.p 5 (b.as.map tmA)] = gdA k a b := rfl
theorem gk_gd (k : Nat) (a b : Tm) : gk (gdA k a b) = k := rfl
theorem ga_gd (k : Nat) (a b : Tm) : ga (gdA k a b) = a := by
  have : ga (gdA k a b) = unTm (tmV a.op a.w a.v a.nq a.np a.p (a.as.map tmA)) := rfl
  rw [this, tmV_A, unTm_A]
theorem gb_gd (k : Nat) (a b : Tm) : gb (gdA k a b) = b := by
  have : gb (gdA k a b) = unTm (tmV b.op b.w b.v b.nq b.np b.p (b.as.map tmA)) := rfl
  rw [this, tmV_A, unTm_A]
theorem eqA_leaf (n : Nat) (t p q r s : Nat) : eqA (n + 1) ⟨t, p, q, r, s, []⟩ ⟨t, p, q, r, s, []⟩ = true := eqA_agg n _ _ _ _ _ _ fun c hc => by cases hc
theorem eqA_gd {k : Nat} {a b : Tm} (ha : a.Sm 40) (hb : b.Sm 40) : eqA 1000 (gdA k a b) (gdA k a b) = true := by
  unfold gdA
  refine eqA_agg 999 15 0 0 0 0 _ fun c hc => ?_
  have key : ∀ (t : Tm), t.Sm 40 → eqA 999 (slP t.p 5 (t.as.map tmA)) (slP t.p 5 (t.as.map tmA)) = true := fun t ht => eqA_agg 998 24 _ 0 5 0 _ fun c hc => by
    obtain ⟨s, hs, rfl⟩ := List.mem_map.1 hc
    cases ht with
    | mk h1 h2 => exact eqA_tm 39 s (h2 s hs) 998 (by omega)
  have key2 : ∀ t p q r s, eqA 999 ⟨t, p, q, r, s, []⟩ ⟨t, p, q, r, s, []⟩ = true := fun t p q r s => eqA_leaf 998 t p q r s
  simp only [List.mem_cons, List.not_mem_nil, or_false] at hc
  rcases hc with rfl | rfl | rfl | rfl | rfl | rfl | rfl | rfl | rfl | rfl | rfl <;> first | exact key _ ha | exact key _ hb | exact key2 _ _ _ _ _
theorem eqA_fc (w z o l h : Nat) : eqA 1000 (aggV [i64 w, u64 z, u64 o, u64 l, u64 h]) (aggV [i64 w, u64 z, u64 o, u64 l, u64 h]) = true := by
  refine eqA_agg 999 15 0 0 0 0 _ fun c hc => ?_
  simp only [List.mem_cons, List.not_mem_nil, or_false] at hc
  rcases hc with rfl | rfl | rfl | rfl | rfl <;> exact eqA_leaf 998 _ _ _ _ _
theorem eqA_nums (np : Nat) (nl : List Bd) : eqA 1000 (slP np 2 (nl.map bdA)) (slP np 2 (nl.map bdA)) = true := by
  refine eqA_agg 999 24 _ 0 2 0 _ fun c hc => ?_
  obtain ⟨x, _, rfl⟩ := List.mem_map.1 hc
  refine eqA_agg 998 15 0 0 0 0 _ fun c hc => ?_
  simp only [List.mem_cons, List.not_mem_nil, or_false] at hc
  rcases hc with rfl | rfl <;> exact eqA_leaf 997 _ _ _ _ _
theorem law4 (J : Jmp) (k : Nat) (a b : Tm) (w z o l h np : Nat) (nl : List Bd) (hoa : a.ok) (hob : b.ok) (hw : w < 2 ^ 64) (hz : z < 2 ^ 64) (ho : o < 2 ^ 64) (hl : l < 2 ^ 64) (hh : h < 2 ^ 64) (hn : nl.length < 2 ^ 62) (hn1 : ∀ x ∈ nl, x.1 < 2 ^ 62) (hn2 : ∀ x ∈ nl, x.2.2 < 2 ^ 64) : (compY Tryz.prog 57 (fun _ => none) (finY Tryz.prog [.tmp 6] [4]) J [] (bodyC Tryz.f4) (finY Tryz.prog [.tmp 6] [4]) []).run RGv (setArgs 0 [gdA k a b, fcA w z o l h, slP np 2 (nl.map bdA)] noFr) (globH Tryz.prog LA) = ansY (bV true) := by
  have q5 := okN_one.2 (pure5 k a b hoa.len hob.len)
  have e5 : sp_lt (gdA k a b) = (lightB a 12 20 && lightB b 12 20) := by unfold sp_lt; rw [ga_gd, gb_gd]
  have efw : sp_fw (nl.map bdA) = fewB nl := by unfold sp_fw; rw [unB_bd]
  have q9 : okN (PureAt Tryz.prog 9 [aggV [slP 0 1 [], slP 0 2 [], slP np 2 (nl.map bdA)]] (mk1 8 (bi (fewB nl) 1 0))) = 1 := okN_one.2 (pure9 np nl hn hn1)
  rw [show gdA k a b = aggV [i64 k, i64 a.op, i64 a.w, u64 a.v, stA a.nq a.np, slP a.p 5 (a.as.map tmA), i64 b.op, i64 b.w, u64 b.v, stA b.nq b.np, slP b.p 5 (b.as.map tmA)] from rfl, show fcA w z o l h = aggV [i64 w, u64 z, u64 o, u64 l, u64 h] from rfl]
  refine (s4 J k a.op a.w a.v a.nq a.np a.p b.op b.w b.v b.nq b.np b.p w z o l h np (a.as.map tmA) (b.as.map tmA) (nl.map bdA)).trans ?_
  simp only [bV, mk1] at q5
  simp only [mk_i64, mk_u64, mk_stA, mk_slP, mk_agg, mk_ls, mk_gd, mk_tm, unTm_A, e5, efw, q5, q9, n11, bi_tt, bS]
  cases hlt : lightB a 12 20 && lightB b 12 20
  · rfl
  cases fewB nl
  · rfl
  obtain ⟨hla, hlb⟩ := Bool.and_eq_true _ _ ▸ hlt
  have sa := (sm_light hla).up (show 12 ≤ 40 by omega)
  have sb := (sm_light hlb).up (show 12 ≤ 40 by omega)
  have q10 : okN (PureAt Tryz.prog 10 [tmA a, slP np 2 (nl.map bdA)] (lsD 0 [u64 (vlT (nl.map bdA) a).1, ⟨8, bi (vlT (nl.map bdA) a).2 1 0, 0, 0, 0, []⟩])) = 1 := okN_one.2 (pure10 np nl hn hn2 400 a (sa.up (by omega)) (Nat.le_refl _) hoa)
  have q11 : okN (PureAt Tryz.prog 11 [tmA a, slP np 2 (nl.map bdA)] (lsD 0 [u64 (vlT (nl.map bdA) a).1, ⟨8, bi (vlT (nl.map bdA) a).2 1 0, 0, 0, 0, []⟩])) = 1 := okN_one.2 (pure11 np nl hn hn2 400 a (sa.up (by omega)) (Nat.le_refl _) hoa)
  have q12 : okN (PureAt Tryz.prog 12 [gdA k a b, aggV [i64 w, u64 z, u64 o, u64 l, u64 h], slP np 2 (nl.map bdA)] ⟨8, bi (ftT k a.w b w z o l h (nl.map bdA)) 1 0, 0, 0, 0, []⟩) = 1 := okN_one.2 (pure12 k a b w z o l h np nl (sb.up (by omega)) hob hw hz ho hl hh hn hn2)
  have q13 : okN (PureAt Tryz.prog 13 [gdA k a b, aggV [i64 w, u64 z, u64 o, u64 l, u64 h], slP np 2 (nl.map bdA)] ⟨8, bi (ftT k a.w b w z o l h (nl.map bdA)) 1 0, 0, 0, 0, []⟩) = 1 := okN_one.2 (pure13 k a b w z o l h np nl (sb.up (by omega)) hob hw hz ho hl hh hn hn2)
  have eft : sp_ft (gdA k a b) (aggV [i64 w, u64 z, u64 o, u64 l, u64 h]) (nl.map bdA) = ftT k a.w b w z o l h (nl.map bdA) := by
    unfold sp_ft
    rw [gk_gd, ga_gd, gb_gd]; rfl
  have eg := eqA_gd (k := k) sa sb
  rw [show sp_vv a (nl.map bdA) = (vlT (nl.map bdA) a).1 from rfl, show sp_vb a (nl.map bdA) = (vlT (nl.map bdA) a).2 from rfl]
  simp only [bneg, eft, q10, q11, q12, q13, eg, eqA_fc, eqA_nums, n11, bi_tt, bi_ff, nbeq_refl, bl_bi, unTm_A]
  rfl
theorem law_calls (k : Nat) (a b : Tm) (w z o l h np : Nat) (nl : List Bd) (hoa : a.ok) (hob : b.ok) (hw : w < 2 ^ 64) (hz : z < 2 ^ 64) (ho : o < 2 ^ 64) (hl : l < 2 ^ 64) (hh : h < 2 ^ 64) (hn : nl.length < 2 ^ 62) (hn1 : ∀ x ∈ nl, x.1 < 2 ^ 62) (hn2 : ∀ x ∈ nl, x.2.2 < 2 ^ 64) {W : World} {vals : List Value} (hW : LaidL W LA) (hsz : Tryz.prog.globals.size ≤ W.heap.size) (hargs : FVs (allZ W) [gdA k a b, fcA w z o l h, slP np 2 (nl.map bdA)] vals) : Calls Tryz.prog 4 vals.toArray W fun e W' => e = .returned (.bool true) ∧ Below W.heap.size W W' :=
  law_ok mixed fn4 body4 nt4 rs4 RGv_ok globs LA_lt LA_low (lab := fun _ => none) (ts := [4]) (n := 0) (law4 _ k a b w z o l h np nl hoa hob hw hz ho hl hh hn hn1 hn2) hW hsz hargs
end Go.Eng
