
/- A part of the proof that the evaluator in GnC, and the driver in GnZ, answer as the model does; no conditions. -/
import Derived.Test.YtfmoohdaimlggaaGreatDoorGnZS3
namespace Go.Eng
open Go.RowKit
variable {P : Program} {w0 : World} {H Hb : Hp} {φ φ0 : Ph} {w : World} {N : Nat} {T : Fr} {a : Act} {lab : Lab} {r : Rec} {fin : BR} {top : Code} {L : RL}

theorem know_st {o : Operand} {b : Bool} (hs : St P w0 N Hb φ0 T H φ a w) (h8 : ((getO P o).run T).tag = 8) (hp : ((getO P o).run T).p = bi b 1 0) : St P w0 N Hb φ0 (knowO o b T) H φ a w :=
  ⟨know_tr hs.tr h8 hp, hs.hr, hs.ex⟩
theorem fz_of_low {φ : Ph} {z : AV} {v : Value} (h : VR φ z v) (ht : z.tag ≤ 9) : FZ φ.fz z v := by
  cases h with
  | int c p r s cs e1 e2 => exact .int c p r s cs e1 e2
  | bool b r s cs => exact .bool b r s cs
  | str l r s cs => exact .str l r s cs
  | _ => simp only at ht; omega
theorem mem_repC {z c : AV} {n : Nat} (h : c ∈ repC n [z]) : c = z := by
  induction n with
  | zero => cases h
  | succ n ih =>
    have h' : c ∈ appL [z] (repC n [z]) := h
    rw [appL_eq, List.mem_append] at h'
    rcases h' with h' | h'
    · simpa using h'
    · exact ih h'
theorem repC_len {z : AV} (n : Nat) : (repC n [z]).length = n := by
  induction n with
  | zero => rfl
  | succ n ih =>
    show (appL [z] (repC n [z])).length = _
    rw [appL_eq, List.length_append, ih]; simp; omega
theorem fzs_low {φ : Ph} : ∀ {cs : List AV} {l : List Value}, VRs φ cs l → (∀ c ∈ cs, c.tag ≤ 9) → FZs φ.fz cs l := by
  intro cs
  induction cs with
  | nil => intro l h _; cases h; exact .nil
  | cons c cs ih =>
    intro l h hc
    cases h with | cons h1 h2 => exact .cons (fz_of_low h1 (hc c (by simp))) (ih h2 fun c h => hc c (by simp [h]))
theorem fz_repC {zz : Nat → Option (List Value)} {z : AV} {l : List Value} (h : FZs zz (cellsOf z) l) (n : Nat) : FZs zz (flatL (repC n [z])) (List.replicate n l).flatten := by
  induction n with
  | zero => exact .nil
  | succ n ih =>
    show FZs zz (flatL (appL [z] (repC n [z]))) _
    rw [appL_eq, List.replicate_succ, List.flatten_cons]
    show FZs zz (flatL (z :: repC n [z])) _
    rw [flatL_cons]
    exact h.append ih
theorem makeSliceY_out {c : Kont} {t e : TypeId} {z : AV} {sz bt : Nat} {a b : AV} {va vb : Value} (hu : (tyB P t).run = some (.slice e)) (hs : (szB P e).run = some sz) (hbt : (btB P e).run = some bt) (hz : (zeB P e).run = some z) (hb6 : bt ≤ 1000000) (hz0 : 0 < sz) (hzs : (cellsOf z).length = sz) (hzt : ∀ c ∈ cellsOf z, c.tag ≤ 9) (hzk : cellsOk z = true)
    (ha : VR φ a va) (hb : VR φ b vb) (hr : HR P w0 H φ w) (hok : AllOk ((makeSliceY sz z).run a b H c)) :
    Out P w0 (fun v w' => (Instr.makeSlice t va vb).run P w = .ok v w') H φ ((makeSliceY sz z).run a b H c) c := by
  refine Out.bi hok fun g1 hok => Out.bi hok fun g2 hok => Out.bi hok fun g3 hok => Out.bi hok fun g4 hok => ?_
  obtain ⟨i, zv, hi, hzv, hzr, hc⟩ := ze_ok hz
  obtain ⟨h1, h2⟩ := (hzr φ).cells hc
  obtain ⟨ie, hie, he⟩ := Option.map_eq_some_iff.1 (show (P.info? e).map (·.size) = some sz from hs)
  rw [hi] at hie; cases hie
  obtain ⟨ie, hie, he'⟩ := Option.map_eq_some_iff.1 (show (P.info? e).map (·.bytes) = some bt from hbt)
  rw [hi] at hie; cases hie
  have g3' := ble_true.1 g3; have g4' := ble_true.1 g4
  obtain ⟨rfl, l1, _⟩ := ha.of_int (c := 3) (by omega) (beq_true.1 g1)
  obtain ⟨rfl, l2, _⟩ := hb.of_int (c := 3) (by omega) (beq_true.1 g2)
  have v1 : valI 3 a.p = (a.p : Int) := valI_lt (by rw [kHalf_3]; omega)
  have v2 : valI 3 b.p = (b.p : Int) := valI_lt (by rw [kHalf_3]; omega)
  rw [v1, v2]
  have hzsz : zv.cells.size = i.size := by rw [h1.length] at hzs; rw [he]; simpa using hzs
  have hm := made_toList hzsz b.p
  have hbytes : (i.bytes : Int) * (b.p : Int) ≤ 281474976710656 := by
    have : i.bytes * b.p ≤ 1000000 * 100000 := Nat.mul_le_mul (by omega) g4'
    have h' : ((i.bytes * b.p : Nat) : Int) ≤ 281474976710656 := by omega
    rwa [Int.natCast_mul] at h'
  have hrun := run_make w t e i zv hu hi hzv .i64 .i64 (a.p : Int) (b.p : Int) (by omega) (by omega) hbytes (by omega)
  simp only [Int.toNat_natCast] at hrun
  have hf : FZs φ.fz (cellsOf z) zv.cells.toList := fzs_low h1 hzt
  have hzl : zv.cells.toList.length = sz := by rw [← h1.length]; exact hzs
  have hfl : (List.replicate b.p zv.cells.toList).flatten.length = b.p * sz := by
    rw [List.length_flatten, List.map_replicate, List.sum_replicate_nat, hzl]
  refine Out.newL (o := .cells (madeCells zv.cells (b.p * i.size)) e) (val := .slice (some ⟨w.heap.size, 0, none⟩) a.p b.p) b.p hr ?_ ?_ hrun hok
  · intro φ' hle hk
    refine ⟨(fun h => by cases h), (fun h => by cases h), (fun h => by cases h), fun _ => .inr (.inr ⟨.inl rfl, (List.replicate b.p zv.cells.toList).flatten, [], e, (0, 0), ?_, ?_, ?_, fun _ => rfl, ?_, ?_, hz0⟩)⟩
    · rw [List.append_nil, ← hm]
    · exact (fz_repC hf b.p).mono hle.fz
    · intro c hc
      have := mem_repC hc
      subst this
      exact ⟨hzk, hzs⟩
    · rw [List.append_nil, hfl]
      show _ = φ'.k _ * sz
      rw [hk]
    · show (repC b.p [z]).length < 2 ^ 40
      rw [repC_len]; omega
  · intro φ' hle hf' hk htl
    have htl' : φ'.tl H.n = b.p := htl.trans (repC_len b.p)
    have := VR.own (φ := φ') H.n w.heap.size a.p 0 [] hf' (by omega) (by omega)
    rw [hk] at this
    exact this
theorem mkSlY_on {o : Oper} {t : TypeId} {l m : Operand} (ho : o.op = .makeSlice t l m) {k : BR} {Q : Exit → Act → World → Prop} (hrec : RecOk P r) (hL : AllOk L) (hs : St P w0 N Hb φ0 T H φ a w) (h : ∀ x ∈ (mkSlY P N o t l m k).run r T H, x ∈ L) :
    o.wpIn (fen none) 0 P a w (On P w0 r N Hb φ0 L k) Q := by
  unfold mkSlY at h
  split at h
  · rename_i e hu
    cases hsz : (szB P e).run with
    | none => rw [hsz] at h; exact opK_on hrec hL hs h
    | some sz =>
    rw [hsz, om_some] at h
    cases hbt : (btB P e).run with
    | none => rw [hbt] at h; exact opK_on hrec hL hs h
    | some bt =>
    rw [hbt, om_some] at h
    cases hze : (zeB P e).run with
    | none => rw [hze] at h; exact opK_on hrec hL hs h
    | some z =>
    rw [hze, om_some] at h
    cases hc : bi (nble bt 1000000) (bi (nble 1 sz) (bi (nbeq (lenL (cellsOf z)) sz) (bi (allL (fun c => nble c.tag 9) (cellsOf z)) (cellsOk z) false) false) false) false
    · rw [hc] at h; exact opK_on hrec hL hs h
    · rw [hc, bi_true] at h
      obtain ⟨c1, hc⟩ := bi_and.1 hc
      obtain ⟨c2, hc⟩ := bi_and.1 hc
      obtain ⟨c3, hc⟩ := bi_and.1 hc
      obtain ⟨c4, c5⟩ := bi_and.1 hc
      have c2 := ble_true.1 c2
      have c3 := beq_true.1 c3
      rw [lenL_eq] at c3
      rw [allL_eq, List.all_eq_true] at c4
      have h' : ∀ x ∈ (makeSliceY sz z).run ((getO P l).run T) ((getO P m).run T) H (fun H v => (putK N o.dst k).run r T H v), x ∈ L := h
      obtain ⟨H', v, φ', val, w', h1, h2, h3, h4, h5⟩ := makeSliceY_out (w0 := w0) hu hsz hbt hze (ble_true.1 c1) c2 c3 (fun c hc => ble_true.1 (c4 c hc)) c5 (hs.tr.eval l) (hs.tr.eval m) hs.hr (hL.of_sub h')
      refine ⟨fun _ _ => trivial, ?_⟩
      have hrun : (execOp a.eval o).run P w = .ok (.value val) w' := by
        have he : execOp a.eval o = (do pure (.value (← Instr.makeSlice t (a.eval l) (a.eval m)))) := by simp only [execOp, ho]
        rw [he]
        simp only [Sem.run_bind, h2, Result.andThen_ok, Sem.run_pure']
      rw [Oper.semAt_eq _ _ _ (fun c hc => by rw [ho] at hc; cases hc), hrun, Oper.uponIn_value]
      exact putK_on hL (hs.tr.mono h5.keep) h3 h4 (hs.ex.trans h5) fun x hx => h' x (h1 x hx)
  · exact opK_on hrec hL hs h
theorem opY_on {o : Oper} {k : BR} {Q : Exit → Act → World → Prop} (hrec : RecOk P r) (hL : AllOk L) (hs : St P w0 N Hb φ0 T H φ a w) (h : ∀ x ∈ (opY P N o k).run r T H, x ∈ L) :
    o.wpIn (fen none) 0 P a w (On P w0 r N Hb φ0 L k) Q := by
  by_cases hpk : ∃ x y z, o.op = .pick x y z
  · obtain ⟨x, y, z, ho⟩ := hpk
    simp only [opY, ho] at h
    cases h8 : nbeq ((getO P x).run T).tag 8
    · rw [h8] at h; exact (failR_sub hL h).elim
    rw [h8, bi_true] at h
    have h8 := beq_true.1 h8
    obtain ⟨b, e, hp, _⟩ := (hs.tr.eval x).of_bool h8
    have hrun : (execOp a.eval o).run P w = .ok (.value (if b then a.eval y else a.eval z)) w := by
      simp only [execOp, ho, e]
      cases b <;> simp [asBool]
    refine ⟨fun _ _ => trivial, ?_⟩
    rw [Oper.semAt_eq _ _ _ (fun c hc => by rw [ho] at hc; cases hc), hrun, Oper.uponIn_value]
    have hks := know_st (b := b) hs h8 hp
    rw [hp] at h
    cases b with
    | true => exact putK_on hL hks.tr (hs.tr.eval y) hs.hr hs.ex h
    | false => exact putK_on hL hks.tr (hs.tr.eval z) hs.hr hs.ex h
  · by_cases hmk : ∃ t l m, o.op = .makeSlice t l m
    · obtain ⟨t, l, m, ho⟩ := hmk
      simp only [opY, ho] at h
      exact mkSlY_on ho hrec hL hs h
    have e : opY P N o k = opK P N o k := by
      unfold opY
      split
      · rename_i t l m ho; exact absurd ⟨t, l, m, ho⟩ hmk
      · rename_i x y z ho; exact absurd ⟨x, y, z, ho⟩ hpk
      · rfl
    rw [e] at h
    exact opK_on hrec hL hs h
theorem opGY_on {all : Array Oper} {o : Oper} {k : BR} {Q : Exit → Act → World → Prop} (hrec : RecOk P r) (hL : AllOk L) (hs : St P w0 N Hb φ0 T H φ a w) (h : ∀ x ∈ (opGY P N all o k).run r T H, x ∈ L) :
    if Region.wanted o (yielded all a.tmps) then o.wpIn (fen none) 0 P a w (On P w0 r N Hb φ0 L k) Q else On P w0 r N Hb φ0 L k (a.put o.dst undef) w := by
  unfold opGY at h
  cases hg : o.guard with
  | none =>
    rw [hg] at h
    simp only [Region.wanted, hg, if_true]
    exact opY_on hrec hL hs h
  | some jw =>
    obtain ⟨j, want⟩ := jw
    rw [hg] at h
    simp only [] at h
    cases hd : (all[j]?).bind (·.dst) with
    | none => rw [hd] at h; exact (failR_sub hL h).elim
    | some d =>
      rw [hd] at h
      simp only [] at h
      cases hb : nble (Nat.succ d) N
      · rw [hb] at h; exact (failR_sub hL h).elim
      rw [hb, bi_true] at h
      have hy := yielded_of hd hs.tr (ble_true.1 hb)
      have hv := hs.tr.val d
      simp only [Region.wanted, hg]
      simp only [] at h
      cases h8 : nbeq ((getB d).run T).tag 8
      · rw [h8, bi_false] at h
        cases h19 : nbeq ((getB d).run T).tag 19
        · rw [h19] at h; exact (failR_sub hL h).elim
        · rw [h19, bi_true] at h
          have e := hv.of_ud (beq_true.1 h19)
          rw [e] at hy
          rw [hy]
          simp only [undef]
          exact putK_on hL hs.tr (.ud _ _ _ _ _) hs.hr hs.ex h
      · rw [h8, bi_true] at h
        have h8 := beq_true.1 h8
        obtain ⟨b, e, hp, _⟩ := hv.of_bool h8
        rw [e] at hy
        rw [hy]
        have hbw : nbeq ((getB d).run T).p (bi want 1 0) = (some b == some want) := by
          rw [hp]; cases b <;> cases want <;> rfl
        rw [hbw] at h
        cases hw : (some b == some want)
        · rw [hw] at h
          have hbn : b = nb want := by cases b <;> cases want <;> first | rfl | cases hw
          have hks := know_st (o := .tmp d) (b := nb want) hs h8 (by rw [← hbn]; exact hp)
          exact putK_on hL hks.tr (.ud _ _ _ _ _) hs.hr hs.ex h
        · rw [hw] at h
          have hbn : b = want := by cases b <;> cases want <;> first | rfl | cases hw
          have hks := know_st (o := .tmp d) (b := want) hs h8 (by rw [← hbn]; exact hp)
          exact opY_on hrec hL hks h
theorem opsY_on {ops : Array Oper} {k : BR} (hrec : RecOk P r) (hL : AllOk L) (n : Nat) : ∀ (i : Nat) (T : Fr) (H : Hp) (φ : Ph) (a : Act) (w : World), i + n = ops.size → St P w0 N Hb φ0 T H φ a w →
    (∀ x ∈ (opsY P N ops (ops.toList.drop i) k).run r T H, x ∈ L) → wpOpsIn (fen none) 0 P ops (QK P w0 r N Hb φ0 L k) (List.range' i n) a w := by
  induction n with
  | zero =>
    intro i T H φ a w hi hs h
    rw [List.drop_of_length_le (by simp; omega)] at h
    exact ⟨T, H, φ, hs, h⟩
  | succ n ih =>
    intro i T H φ a w hi hs h
    have hlt : i < ops.size := by omega
    have hd : ops.toList.drop i = ops[i] :: ops.toList.drop (i + 1) := by
      rw [List.drop_eq_getElem_cons (by simpa using hlt)]; simp
    rw [hd] at h
    have ho : ops[i]? = some ops[i] := by simp [hlt]
    rw [List.range'_succ]
    simp only [wpOpsIn, ho]
    have key := opGY_on (P := P) (all := ops) (o := ops[i]) (k := opsY P N ops (ops.toList.drop (i + 1)) k) (Q := QK P w0 r N Hb φ0 L k) hrec hL hs h
    have hnext : ∀ a w, On P w0 r N Hb φ0 L (opsY P N ops (ops.toList.drop (i + 1)) k) a w → wpOpsIn (fen none) 0 P ops (QK P w0 r N Hb φ0 L k) (List.range' (i + 1) n) a w := by
      rintro a w ⟨T, H, φ, h1, h2⟩
      exact ih (i + 1) T H φ a w (by omega) h1 h2
    split
    · rename_i hw
      rw [if_pos hw] at key
      exact Oper.wpIn_mono hnext key
    · rename_i hw
      rw [if_neg hw] at key
      exact ⟨fun _ _ => trivial, hnext _ _ key⟩
theorem qk_qyy {n m : Nat} {k : Nat → BR} {ks : Nat → List (Nat × BR)} (h5 : ∀ x ∈ L, x.tag = 5) (hm : m ≤ n) : ∀ (e : Exit) (a : Act) (w : World), QK P w0 r N Hb φ0 L (k m) e a w → QYY P w0 r N Hb φ0 L fin n k ks e a w := by
  intro e a w h
  cases e with
  | normal => exact On.y hm h
  | exit i => obtain ⟨x, hx, h1, _⟩ := h; have := h5 x hx; omega
  | ret => obtain ⟨x, hx, h1, _⟩ := h; have := h5 x hx; omega
  | _ => exact h.elim
section sound
variable (hm : P.follows .mixedOrders = true) (hrec : RecOk P r) (hL : AllOk L) (h5 : ∀ x ∈ L, x.tag = 5) (hb : BaseY P w0 Hb φ0)
include hm hrec hL h5 hb
theorem compY_sound (c : Code) : ∀ (rp : List Nat) (k : Nat → BR) (ks : Nat → List (Nat × BR)), (∀ n, ctxAt P N lab fin top (jmpN P N lab Hb r fin top n) rp = some ⟨c, k n, ks n⟩) →
    ∀ (n : Nat) (T : Fr) (H : Hp) (φ : Ph) (a : Act) (w : World), St P w0 N Hb φ0 T H φ a w → (∀ x ∈ (compY P N lab fin (jmpN P N lab Hb r fin top n) rp c (k n) (ks n)).run r T H, x ∈ L) →
    c.wpIn (fen none) 0 P (QYY P w0 r N Hb φ0 L fin n k ks) a w := by
  induction c with
  | skip => exact fun rp k ks hat n T H φ a w hs h => wpIn_skip ⟨n, Nat.le_refl _, T, H, φ, hs, h⟩
  | label l => exact fun rp k ks hat n T H φ a w hs h => wpIn_label ⟨n, Nat.le_refl _, T, H, φ, hs, h⟩
  | ret => exact fun rp k ks hat n T H φ a w hs h => wpIn_ret ⟨n, Nat.le_refl _, T, H, φ, hs, h⟩
  | exit i => exact fun rp k ks hat n T H φ a w hs h => wpIn_exit ⟨n, Nat.le_refl _, T, H, φ, hs, h⟩
  | region id ops draw =>
    intro rp k ks hat n T H φ a w hs h
    cases draw with
    | false =>
      refine wpIn_mono ?_ (qk_qyy h5 (Nat.le_refl n))
      refine wpIn_region ?_
      rw [List.range_eq_range']
      exact opsY_on hrec hL _ 0 T H φ a w (by omega) hs h
    | true => exact wpIn_mono (draw_on hm hrec hL hs h) (qk_qyy h5 (Nat.le_refl n))
  | seq x y ihx ihy =>
    intro rp k ks hat n T H φ a w hs h
    have hatx : ∀ n, ctxAt P N lab fin top (jmpN P N lab Hb r fin top n) (0 :: rp) = some ⟨x, atY P lab (jmpN P N lab Hb r fin top n) (1 :: rp) (compY P N lab fin (jmpN P N lab Hb r fin top n) (1 :: rp) y (k n) (ks n)), ks n⟩ := fun n => by
      show om (ctxAt P N lab fin top (jmpN P N lab Hb r fin top n) rp) none _ = _
      rw [hat n]; rfl
    have haty : ∀ n, ctxAt P N lab fin top (jmpN P N lab Hb r fin top n) (1 :: rp) = some ⟨y, k n, ks n⟩ := fun n => by
      show om (ctxAt P N lab fin top (jmpN P N lab Hb r fin top n) rp) none _ = _
      rw [hat n]; rfl
    refine wpIn_seq (wpIn_mono (ihx (0 :: rp) _ ks hatx n T H φ a w hs h) ?_)
    intro e a' w' hq
    cases e with
    | normal =>
      obtain ⟨m, hm1, T', H', φ', h1, h2⟩ := hq
      cases hl : lab (1 :: rp) with
      | none =>
        have e1 : atY P lab (jmpN P N lab Hb r fin top m) (1 :: rp) (compY P N lab fin (jmpN P N lab Hb r fin top m) (1 :: rp) y (k m) (ks m)) = compY P N lab fin (jmpN P N lab Hb r fin top m) (1 :: rp) y (k m) (ks m) := by
          unfold atY; rw [hl]; rfl
        have h2' : ∀ z ∈ (atY P lab (jmpN P N lab Hb r fin top m) (1 :: rp) (compY P N lab fin (jmpN P N lab Hb r fin top m) (1 :: rp) y (k m) (ks m))).run r T' H', z ∈ L := h2
        rw [e1] at h2'
        exact wpIn_mono (ihy (1 :: rp) k ks haty m T' H' φ' a' w' h1 h2') (QYY.mono hm1)
      | some live =>
        have e1 : atY P lab (jmpN P N lab Hb r fin top m) (1 :: rp) (compY P N lab fin (jmpN P N lab Hb r fin top m) (1 :: rp) y (k m) (ks m)) = jumpY P lab (jmpN P N lab Hb r fin top m) (1 :: rp) := by
          unfold atY; rw [hl]; rfl
        have h2' : ∀ z ∈ (atY P lab (jmpN P N lab Hb r fin top m) (1 :: rp) (compY P N lab fin (jmpN P N lab Hb r fin top m) (1 :: rp) y (k m) (ks m))).run r T' H', z ∈ L := h2
        rw [e1] at h2'
        obtain ⟨m', rfl, T2, H2, φ2, g1, g2⟩ := jump_ok hL hb haty h1 h2'
        exact wpIn_mono (ihy (1 :: rp) k ks haty m' T2 H2 φ2 a' w' g1 g2) (QYY.mono (by omega))
    | _ => exact hq
  | cond c x y ihx ihy =>
    intro rp k ks hat n T H φ a w hs h
    have hatx : ∀ n, ctxAt P N lab fin top (jmpN P N lab Hb r fin top n) (0 :: rp) = some ⟨x, k n, ks n⟩ := fun n => by
      show om (ctxAt P N lab fin top (jmpN P N lab Hb r fin top n) rp) none _ = _
      rw [hat n]; rfl
    have haty : ∀ n, ctxAt P N lab fin top (jmpN P N lab Hb r fin top n) (1 :: rp) = some ⟨y, k n, ks n⟩ := fun n => by
      show om (ctxAt P N lab fin top (jmpN P N lab Hb r fin top n) rp) none _ = _
      rw [hat n]; rfl
    have h' : ∀ z ∈ bi (nbeq ((getO P c).run T).tag 8) (bi (nbeq ((getO P c).run T).p 1) ((compY P N lab fin (jmpN P N lab Hb r fin top n) (0 :: rp) x (k n) (ks n)).run r (knowO c true T) H) ((compY P N lab fin (jmpN P N lab Hb r fin top n) (1 :: rp) y (k n) (ks n)).run r (knowO c false T) H)) (failR 245), z ∈ L := h
    cases h8 : nbeq ((getO P c).run T).tag 8
    · rw [h8] at h'; exact (failR_sub hL h').elim
    · rw [h8, bi_true] at h'
      have h8 := beq_true.1 h8
      obtain ⟨b, e, hp, _⟩ := (hs.tr.eval c).of_bool h8
      have hks := know_st (b := b) hs h8 hp
      rw [hp] at h'
      cases b with
      | true => exact wpIn_cond_true e (ihx (0 :: rp) k ks hatx n _ H φ a w hks h')
      | false => exact wpIn_cond_false e (ihy (1 :: rp) k ks haty n _ H φ a w hks h')
  | block i c ih =>
    intro rp k ks hat n T H φ a w hs h
    have hatc : ∀ n, ctxAt P N lab fin top (jmpN P N lab Hb r fin top n) (0 :: rp) = some ⟨c, k n, (i, k n) :: ks n⟩ := fun n => by
      show om (ctxAt P N lab fin top (jmpN P N lab Hb r fin top n) rp) none _ = _
      rw [hat n]; rfl
    refine wpIn_block (wpIn_mono (ih (0 :: rp) k (fun n => (i, k n) :: ks n) hatc n T H φ a w hs h) ?_)
    intro e a' w' hq
    cases e with
    | normal => exact hq
    | exit j =>
      obtain ⟨m, hm1, T', H', φ', h1, h2⟩ := hq
      have h2' : ∀ z ∈ (bi (nbeq i j) (k m) (exitY j (ks m))).run r T' H', z ∈ L := h2
      by_cases hji : j = i
      · simp only [Exit.inBlock, hji, if_true]
        rw [beq_true.2 hji.symm, bi_true] at h2'
        exact ⟨m, hm1, T', H', φ', h1, h2'⟩
      · simp only [Exit.inBlock, hji, if_false]
        rw [beq_false.2 (Ne.symm hji), bi_false] at h2'
        exact ⟨m, hm1, T', H', φ', h1, h2'⟩
    | ret => exact hq
    | goto l => exact hq.elim
    | panic ch => exact hq.elim
    | outgrown => exact hq.elim
  | loop c ih =>
    intro rp k ks hat n T H φ a w hs h
    have hatc : ∀ n, ctxAt P N lab fin top (jmpN P N lab Hb r fin top n) (0 :: rp) = some ⟨c, jumpY P lab (jmpN P N lab Hb r fin top n) (0 :: rp), ks n⟩ := fun n => by
      show om (ctxAt P N lab fin top (jmpN P N lab Hb r fin top n) rp) none _ = _
      rw [hat n]; rfl
    let J : Nat → Act → World → Prop := fun m a w => m ≤ n ∧ ∃ T H φ, St P w0 N Hb φ0 T H φ a w ∧ ∀ x ∈ (jumpY P lab (jmpN P N lab Hb r fin top m) (0 :: rp)).run r T H, x ∈ L
    let μ : Act → World → Nat := fun a w => (Classical.propDecidable (∃ n, J n a w)).byCases (fun h => Classical.choose (least h)) (fun _ => 0)
    have hμ : ∀ a w, (∃ n, J n a w) → J (μ a w) a w ∧ ∀ m, J m a w → μ a w ≤ m := by
      intro a w he
      have : μ a w = Classical.choose (least he) := by
        show (Classical.propDecidable (∃ n, J n a w)).byCases _ _ = _
        cases Classical.propDecidable (∃ n, J n a w) with
        | isTrue h => rfl
        | isFalse h => exact absurd he h
      rw [this]
      exact Classical.choose_spec (least he)
    refine wpIn_loop (fun a w => ∃ n, J n a w) μ ⟨n, Nat.le_refl _, T, H, φ, hs, h⟩ ?_
    intro a w he
    obtain ⟨hJ, _⟩ := hμ a w he
    generalize hme : μ a w = m at hJ
    obtain ⟨hmn, T, H, φ, hs, hr⟩ := hJ
    obtain ⟨m', rfl, T', H', φ', g1, g2⟩ := jump_ok hL hb hatc hs hr
    refine wpIn_mono (ih (0 :: rp) _ ks hatc m' T' H' φ' a w g1 g2) ?_
    intro e a' w' hq
    cases e with
    | normal =>
      obtain ⟨m2, hm2, T2, H2, φ2, k1, k2⟩ := hq
      have hJ' : J m2 a' w' := ⟨by omega, T2, H2, φ2, k1, k2⟩
      exact ⟨⟨m2, hJ'⟩, Nat.lt_of_le_of_lt ((hμ a' w' ⟨m2, hJ'⟩).2 m2 hJ') (by omega)⟩
    | exit i => exact OnY.mono (by omega) hq
    | ret => exact OnY.mono (by omega) hq
    | goto l => exact hq.elim
    | panic ch => exact hq.elim
    | outgrown => exact hq.elim
  | scope c ih =>
    intro rp k ks hat n T H φ a w hs h
    have hatc : ∀ n, ctxAt P N lab fin top (jmpN P N lab Hb r fin top n) (0 :: rp) = some ⟨c, k n, ks n⟩ := fun n => by
      show om (ctxAt P N lab fin top (jmpN P N lab Hb r fin top n) rp) none _ = _
      rw [hat n]; rfl
    refine wpIn_scope_straight (wpIn_mono (ih (0 :: rp) k ks hatc n T H φ a w hs h) ?_)
    intro e a' w' hq
    cases e with
    | goto l => exact hq.elim
    | _ => exact hq
  | _ => intro rp k ks hat n T H φ a w hs h; exact (failR_sub hL h).elim
end sound
end Go.Eng
