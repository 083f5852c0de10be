/- A part of the proof that the evaluator in EngC answers as the model does; no conditions. -/
import Derived.Test.YtcnlhhnmfomibaaGreatDoorEngS22
import Derived.Lib.SlKeysI
import Derived.Laws.AppendOwn
import Derived.Maps.Own
namespace Go.Eng
open Go.RowKit Go.MapKept Go.WideElems
noncomputable section
/-! ### slices.Sorted(maps.Keys(m)), answered by the kit's own contract: the map's keys of type int, sorted, in a new block -/
def hasE (e : AV) (es : List AV) : Bool := List.rec (motive := fun _ => Bool) false (fun x _ ih => bi (Nat.beq x.p e.p) true (bi (Nat.beq (nthL x.cs 0).p (nthL e.cs 0).p) true ih)) es
def okEs (es : List AV) : Bool := List.rec (motive := fun _ => Bool) true (fun e t ih => bi (hasE e t) false ih) es
def keysL (l : List AV) : List AV := List.rec (motive := fun _ => List AV) [] (fun x _ ih => nthL x.cs 0 :: ih) l
def insL (x : AV) (l : List AV) : List AV := List.rec (motive := fun _ => List AV) [x] (fun y t ih => bi (Nat.ble (biased 3 x.p) (biased 3 y.p)) (x :: y :: t) (y :: ih)) l
def srtL (l : List AV) : List AV := List.rec (motive := fun _ => List AV) [] (fun x _ ih => insL x ih) l
def sortR (H : Hp) (l : List AV) : List CRes := List.rec (motive := fun _ => List CRes) [⟨1, 0, mk1 17 1, H⟩] (fun _ _ _ => bi (Nat.ble H.n 32766) [⟨1, 0, slV H.n 0 (lenL l) (lbS (lenL l)), hnew H ⟨1, 1, 0, l⟩⟩] (failC 73)) l
def sortedM (H : Hp) (m : AV) : List CRes := bi (isNil m 2) [⟨1, 0, mk1 17 1, H⟩] (bi (Nat.beq m.tag 12) (bi (Nat.beq (hget H m.p).kind 2) (bi (Nat.beq (hget H m.p).t 3) (bi (okEs (hget H m.p).cs) (bi (Nat.ble (lenL (hget H m.p).cs) 1000) (sortR H (srtL (keysL (hget H m.p).cs))) (failC 72)) (failC 72)) (failC 72)) (failC 72)) (failC 72))
def sortedC (H : Hp) (c : AV) : List CRes := bi (Nat.beq c.tag 10) (bi (Nat.beq c.q 0) (bi (Nat.beq (hget H c.p).kind 1) (sortedM H (nthL (hget H c.p).cs 0)) (failC 72)) (failC 72)) (failC 72)
def sortedF (g : Nat) (H : Hp) (f : AV) : List CRes := bi (Nat.beq f.tag 13) (bi (Nat.beq f.p g) (bi (Nat.beq f.q 0) (bi (Nat.beq (lenL f.cs) 1) (sortedC H (nthL f.cs 0)) (failC 72)) (failC 72)) (failC 72)) (failC 72)
def sortedN (g : Nat) : Native := fun args H => bi (Nat.beq (lenL args) 1) (sortedF g H (nthL args 0)) (failC 72)
end
variable {P : Program} {w0 : World} {H : Hp} {φ : Ph} {w : World}
/-- what the kit's contract says of slices.Sorted at what maps.Keys hands back -/
def SortedSays (P : Program) (f g : Nat) (k e : TypeId) : Prop := ∀ (R : Value → Option (DataW Unit × List MemPlace)) (Bm b nn : Nat) (D : DataW Unit) (w : World), Bm < w.heap.size → w.cell? ⟨Bm, 0, none⟩ = some (.map (some b)) → w.ownsMap P k R b nn D →
  Maps.size D ≤ maxLen → Maps.size D * 8 ≤ 140737488355328 →
  Calls P f #[.func (.func g) #[] #[.pointer (some ⟨Bm, 0, none⟩)]] w fun e' w' => ∃ (v : Value) (ss : List Int), e' = .returned v ∧ ss.Perm (intKeys D) ∧
    w'.ownsRow w.heap.size e 1 v ss.length ((ss.mergeSort (fun x y => decide (x ≤ y))).map encZ) ∧ (v = .slice none 0 0 ↔ ss = []) ∧ Below w.heap.size w w'
def SortedSaysNil (P : Program) (f g : Nat) : Prop := ∀ (Bm : Nat) (w : World), Bm < w.heap.size → w.cell? ⟨Bm, 0, none⟩ = some (.map none) →
  Calls P f #[.func (.func g) #[] #[.pointer (some ⟨Bm, 0, none⟩)]] w fun e' w' => e' = .returned (.slice none 0 0) ∧ Below w.heap.size w w'
theorem insL_perm (x : AV) (l : List AV) : (insL x l).Perm (x :: l) := by
  induction l with
  | nil => exact List.Perm.refl _
  | cons y l ih =>
    show (bi (Nat.ble (biased 3 x.p) (biased 3 y.p)) (x :: y :: l) (y :: insL x l)).Perm _
    cases Nat.ble (biased 3 x.p) (biased 3 y.p)
    · exact (ih.cons y).trans (List.Perm.swap x y l)
    · exact List.Perm.refl _
theorem srtL_perm (l : List AV) : (srtL l).Perm l := by
  induction l with
  | nil => exact List.Perm.refl _
  | cons x l ih => exact (insL_perm x (srtL l)).trans (ih.cons x)
def LeB (a b : AV) : Prop := biased 3 a.p ≤ biased 3 b.p
theorem insL_sorted (x : AV) (l : List AV) (h : l.Pairwise LeB) : (insL x l).Pairwise LeB := by
  induction l with
  | nil => exact List.pairwise_singleton _ _
  | cons y l ih =>
    show (bi (Nat.ble (biased 3 x.p) (biased 3 y.p)) (x :: y :: l) (y :: insL x l)).Pairwise LeB
    rw [List.pairwise_cons] at h
    cases hb : Nat.ble (biased 3 x.p) (biased 3 y.p)
    · rw [bi_false, List.pairwise_cons]
      refine ⟨fun z hz => ?_, ih h.2⟩
      rcases List.mem_cons.1 ((insL_perm x l).mem_iff.1 hz) with rfl | hz
      · exact Nat.le_of_lt (ble_false.1 hb)
      · exact h.1 z hz
    · rw [bi_true, List.pairwise_cons, List.pairwise_cons]
      refine ⟨fun z hz => ?_, h⟩
      rcases List.mem_cons.1 hz with rfl | hz
      · exact ble_true.1 hb
      · exact Nat.le_trans (ble_true.1 hb) (h.1 z hz)
theorem srtL_sorted (l : List AV) : (srtL l).Pairwise LeB := by
  induction l with
  | nil => exact List.Pairwise.nil
  | cons x l ih => exact insL_sorted x _ ih
theorem hasE_false {e : AV} {es : List AV} (h : hasE e es = false) : ∀ x ∈ es, x.p ≠ e.p ∧ (nthL x.cs 0).p ≠ (nthL e.cs 0).p := by
  induction es with
  | nil => intro x hx; cases hx
  | cons y es ih =>
    have h' : bi (Nat.beq y.p e.p) true (bi (Nat.beq (nthL y.cs 0).p (nthL e.cs 0).p) true (hasE e es)) = false := h
    cases h1 : Nat.beq y.p e.p
    · rw [h1, bi_false] at h'
      cases h2 : Nat.beq (nthL y.cs 0).p (nthL e.cs 0).p
      · rw [h2, bi_false] at h'
        intro x hx
        cases hx with
        | head => exact ⟨beq_false.1 h1, beq_false.1 h2⟩
        | tail _ hx => exact ih h' x hx
      · rw [h2] at h'; cases h'
    · rw [h1] at h'; cases h'
/-- a key of type int -/
def KeyV (a : AV) : Prop := ∀ φ : Ph, VR φ a (.int .i64 (valI 3 a.p)) ∧ a.p < kMod 3 ∧ a.tag = 3
theorem ents_facts {ck : Nat} {cs : List AV} {es : List MapEntry} (h : Ents φ 3 ck cs es) (hok : okEs cs = true) :
    es.map (·.key) = (keysL cs).map (fun a => Value.int .i64 (valI 3 a.p)) ∧ (∀ a ∈ keysL cs, KeyV a) ∧ (∀ x ∈ es, x.born < ck) ∧ (es.map (·.born)).Nodup ∧ es.Pairwise (fun x y => x.key ≠ y.key) ∧ (∀ e' ∈ es, ∃ x ∈ cs, x.p = e'.born ∧ e'.key = .int .i64 (valI 3 (nthL x.cs 0).p) ∧ (nthL x.cs 0).p < kMod 3) := by
  induction h with
  | nil => exact ⟨rfl, fun a ha => (by cases ha), fun x hx => (by cases hx), List.Pairwise.nil, List.Pairwise.nil, fun x hx => (by cases hx)⟩
  | @cons b q r s k v ek ev cs es h1 h2' h3 h4 _ ih =>
    have h2 : k.tag = 3 := beq_true.1 h2'
    have hok' : bi (hasE ⟨16, b, q, r, s, [k, v]⟩ cs) false (okEs cs) = true := hok
    cases hh : hasE ⟨16, b, q, r, s, [k, v]⟩ cs
    · rw [hh, bi_false] at hok'
      obtain ⟨i1, i2, i3, i4, i5, i6⟩ := ih hok'
      obtain ⟨hek, hlt, hq⟩ := h1.of_int (c := 3) (by omega) h2
      have hne := hasE_false hh
      have hkv : KeyV k := fun φ' => by
        refine ⟨?_, hlt, h2⟩
        obtain ⟨kt, kp, kq, kr, ks, kc⟩ := k
        simp only at h2 hq hlt
        subst h2 hq
        exact .int 3 kp kr ks kc (by omega) hlt
      refine ⟨?_, ?_, ?_, ?_, ?_, ?_⟩
      · show ek :: _ = _ :: _
        rw [i1, hek]; rfl
      · intro a ha
        cases ha with
        | head => exact hkv
        | tail _ ha => exact i2 a ha
      · intro x hx
        cases hx with
        | head => exact h4
        | tail _ hx => exact i3 x hx
      · rw [List.map_cons, List.nodup_cons]
        refine ⟨fun hm => ?_, i4⟩
        obtain ⟨x, hx, he⟩ := List.mem_map.1 hm
        obtain ⟨y, hy, hy1, _⟩ := i6 x hx
        exact (hne y hy).1 (hy1.trans he)
      · rw [List.pairwise_cons]
        refine ⟨fun x hx he => ?_, i5⟩
        obtain ⟨y, hy, _, hy2, hy3⟩ := i6 x hx
        have he : ek = x.key := he
        rw [hek, hy2] at he
        injection he with _ he
        refine (hne y hy).2 ?_
        have e1 := (cmp_val (c := 3) (by omega) hlt hy3).1 (by rw [he]; exact Int.le_refl _)
        have e2 := (cmp_val (c := 3) (by omega) hy3 hlt).1 (by rw [he]; exact Int.le_refl _)
        have e3 : biased 3 (nthL y.cs 0).p = biased 3 k.p := Nat.le_antisymm e2 e1
        show (nthL y.cs 0).p = k.p
        have u : ∀ x, biased 3 x = (x + kHalf 3) % kMod 3 := fun _ => rfl
        have hm : kMod 3 = 2 ^ 64 := rfl
        have hh : kHalf 3 = 2 ^ 63 := rfl
        rw [u, u, hm, hh] at e3
        rw [hm] at hlt hy3
        omega
      · intro x hx
        cases hx with
        | head => exact ⟨_, List.mem_cons_self, rfl, hek, hlt⟩
        | tail _ hx =>
          obtain ⟨y, hy, e⟩ := i6 x hx
          exact ⟨y, List.mem_cons_of_mem _ hy, e⟩
    · rw [hh] at hok'; cases hok'
theorem insert_perm (x : Lit × DataW Unit) (l : List (Lit × DataW Unit)) : (DataW.insert x l).Perm (x :: l) := by
  induction l with
  | nil => exact List.Perm.refl _
  | cons y l ih =>
    unfold DataW.insert
    split
    · exact List.Perm.refl _
    · exact (ih.cons y).trans (List.Perm.swap x y l)
theorem foldr_perm (l : List (Lit × DataW Unit)) : (l.foldr DataW.insert []).Perm l := by
  induction l with
  | nil => exact List.Perm.refl _
  | cons x l ih => exact (insert_perm x _).trans (ih.cons x)
theorem valI_wf {p : Nat} (h : p < kMod 3) : (Lit.int .i64 (valI 3 p)).wf = true := by
  have hm : kMod 3 = 2 ^ 64 := rfl
  have hh : kHalf 3 = 2 ^ 63 := rfl
  rw [hm] at h
  have h1 : IntKind.i64.min = -9223372036854775808 := rfl
  have h2 : IntKind.i64.max = 9223372036854775807 := rfl
  show (decide (IntKind.i64.min ≤ valI 3 p) && decide (valI 3 p ≤ IntKind.i64.max)) = true
  rw [h1, h2, Bool.and_eq_true, decide_eq_true_eq, decide_eq_true_eq]
  unfold valI isNeg
  rw [hh, hm]
  cases hb : Nat.ble (2 ^ 63) p
  · have := ble_false.1 hb
    simp
    omega
  · have := ble_true.1 hb
    simp
    omega
theorem vrs_vals {l : List AV} (h : ∀ a ∈ l, KeyV a) : VRs φ l (l.map fun a => Value.int .i64 (valI 3 a.p)) := by
  induction l with
  | nil => exact .nil
  | cons a l ih => exact .cons (h a List.mem_cons_self φ).1 (ih fun b hb => h b (List.mem_cons_of_mem _ hb))
theorem sortedN_ok {f g : Nat} {k e : TypeId} (hk : P.underlying k = some (.int .i64)) (hS : SortedSays P f g k e) (hNil : SortedSaysNil P f g) : CallOk P f (sortedN g) := by
  intro w0 H φ w args vals hargs hr hall
  unfold sortedN at hall ⊢
  cases c1 : Nat.beq (lenL args) 1
  · rw [c1] at hall; exact (failC_bad hall).elim
  rw [c1, bi_true] at hall
  rw [bi_true]
  have hl1 := beq_true.1 c1
  rw [lenL_eq] at hl1
  obtain ⟨fa, rfl⟩ := List.length_eq_one_iff.1 hl1
  cases hargs with
  | cons hf hnil =>
  cases hnil
  rename_i vf
  have hall : AllC (sortedF g H fa) := hall
  show Calls P f _ w (CallPost P w0 (sortedF g H fa) H φ)
  unfold sortedF at hall ⊢
  cases c2 : Nat.beq fa.tag 13
  · rw [c2] at hall; exact (failC_bad hall).elim
  rw [c2, bi_true] at hall; rw [bi_true]
  cases c3 : Nat.beq fa.p g
  · rw [c3] at hall; exact (failC_bad hall).elim
  rw [c3, bi_true] at hall; rw [bi_true]
  cases c4 : Nat.beq fa.q 0
  · rw [c4] at hall; exact (failC_bad hall).elim
  rw [c4, bi_true] at hall; rw [bi_true]
  cases c5 : Nat.beq (lenL fa.cs) 1
  · rw [c5] at hall; exact (failC_bad hall).elim
  rw [c5, bi_true] at hall; rw [bi_true]
  obtain ⟨first, cap, rfl, hcs, hlen⟩ := hf.of_fn (beq_true.1 c2)
  rw [beq_true.1 c4] at hlen
  obtain rfl : first = [] := List.eq_nil_of_length_eq_zero hlen
  have hl5 := beq_true.1 c5
  rw [lenL_eq] at hl5
  obtain ⟨ca, hca⟩ := List.length_eq_one_iff.1 hl5
  rw [hca] at hcs hall
  rw [hca]
  have hcap : ∃ vc, cap = [vc] ∧ VR φ ca vc := by
    cases hcs with
    | cons h1 h2 => cases h2; exact ⟨_, by simp, h1⟩
  obtain ⟨vc, rfl, hc⟩ := hcap
  have hall : AllC (sortedC H ca) := hall
  show Calls P f _ w (CallPost P w0 (sortedC H ca) H φ)
  unfold sortedC at hall ⊢
  cases c6 : Nat.beq ca.tag 10
  · rw [c6] at hall; exact (failC_bad hall).elim
  rw [c6, bi_true] at hall; rw [bi_true]
  cases c7 : Nat.beq ca.q 0
  · rw [c7] at hall; exact (failC_bad hall).elim
  rw [c7, bi_true] at hall; rw [bi_true]
  cases c8 : Nat.beq (hget H ca.p).kind 1
  · rw [c8] at hall; exact (failC_bad hall).elim
  rw [c8, bi_true] at hall; rw [bi_true]
  obtain ⟨x, rfl, hx⟩ := hc.of_ptr (beq_true.1 c6)
  rw [beq_true.1 c7]
  obtain ⟨_, _, o, ho, hB⟩ := hr.blk _ _ hx
  obtain ⟨l, rest, t, rfl, hl, _, _⟩ := hB.cells (beq_true.1 c8)
  unfold sortedM at hall ⊢
  generalize hma : nthL (hget H ca.p).cs 0 = ma at hall ⊢
  rw [nthL_eq] at hma
  have hbm : x < w.heap.size := (Array.getElem?_eq_some_iff.1 ho).1
  have hlt : ∀ b x, φ b = some x → b < H.n ∧ x < w.heap.size := by
    intro b x hb
    obtain ⟨h1, h2, o, h3, _⟩ := hr.blk b x hb
    exact ⟨h1, (Array.getElem?_eq_some_iff.1 h3).1⟩
  rcases Bool.eq_false_or_eq_true (isNil ma 2) with c0 | c0
  · rw [c0, bi_true]
    have hcell : ∃ vm, l[0]? = some vm ∧ VR φ ma vm := by
      cases hcs0 : (hget H ca.p).cs[0]? with
      | none => rw [hcs0] at hma; rw [← hma] at c0; cases c0
      | some m => rw [hcs0] at hma; cases hma; exact hl.get hcs0
    obtain ⟨vm, hvm, hm⟩ := hcell
    have hvn : vm = .map none := hm.isNil c0
    have hcellw := cell_of ho _ (get_prefix (rest := rest) hvm)
    rw [hvn] at hcellw
    have hfa : fa.p = g := beq_true.1 c3
    rw [hfa]
    refine Calls.mono (hNil x w hbm hcellw) fun e' w' he => ?_
    obtain ⟨rfl, hbel⟩ := he
    refine ⟨⟨1, 0, mk1 17 1, H⟩, List.mem_singleton.2 rfl, φ, .nils _ _ _ _, ⟨?_, hr.inj, hr.n, hr.lim, hr.below.trans (hbel.mono hr.below.size), hr.gl, hr.op⟩, EX.refl H φ⟩
    intro b x hb
    obtain ⟨h1, h2, o, h3, h4⟩ := hr.blk b x hb
    exact ⟨h1, h2, o, by rw [hbel.block x (hlt b x hb).2]; exact h3, h4⟩
  rw [c0, bi_false] at hall
  rw [c0, bi_false]
  cases c9 : Nat.beq ma.tag 12
  · rw [c9] at hall; exact (failC_bad hall).elim
  rw [c9, bi_true] at hall; rw [bi_true]
  cases c10 : Nat.beq (hget H ma.p).kind 2
  · rw [c10] at hall; exact (failC_bad hall).elim
  rw [c10, bi_true] at hall; rw [bi_true]
  cases c11 : Nat.beq (hget H ma.p).t 3
  · rw [c11] at hall; exact (failC_bad hall).elim
  rw [c11, bi_true] at hall; rw [bi_true]
  cases c12 : okEs (hget H ma.p).cs
  · rw [c12] at hall; exact (failC_bad hall).elim
  rw [c12, bi_true] at hall; rw [bi_true]
  cases c13 : Nat.ble (lenL (hget H ma.p).cs) 1000
  · rw [c13] at hall; exact (failC_bad hall).elim
  rw [c13, bi_true] at hall; rw [bi_true]
  have hcell : ∃ vm, l[0]? = some vm ∧ VR φ ma vm := by
    cases hcs0 : (hget H ca.p).cs[0]? with
    | none => rw [hcs0] at hma; rw [← hma] at c9; cases c9
    | some m => rw [hcs0] at hma; cases hma; exact hl.get hcs0
  obtain ⟨vm, hvm, hm⟩ := hcell
  obtain ⟨y, rfl, hy⟩ := hm.of_map (beq_true.1 c9)
  have hcellw := cell_of ho _ (get_prefix (rest := rest) hvm)
  obtain ⟨_, _, o2, ho2, hB2⟩ := hr.blk _ _ hy
  obtain ⟨es, rfl, hents, _⟩ := hB2.map (beq_true.1 c10)
  rw [beq_true.1 c11] at hents
  obtain ⟨f1, f2, f3, f4, f5, f6⟩ := ents_facts hents c12
  have hlen13 := ble_true.1 c13
  rw [lenL_eq] at hlen13
  have heslen : es.length = (hget H ma.p).cs.length := by
    have := congrArg List.length f1
    rw [List.length_map, List.length_map] at this
    rw [this]
    generalize (hget H ma.p).cs = L
    induction L with
    | nil => rfl
    | cons a L ih => exact congrArg Nat.succ ih
  let R : Value → Option (DataW Unit × List MemPlace) := fun _ => some (.nil, [])
  have hrd : ∀ x ∈ es, ∃ a, x.key = .int .i64 (valI 3 a) ∧ rd P k R x = some (.int .i64 (valI 3 a), .nil) := by
    intro x hx
    obtain ⟨z, _, _, h2, h3⟩ := f6 x hx
    refine ⟨_, h2, ?_⟩
    unfold rd
    rw [h2, Maps.keyOf_int_mk hk (valI_wf h3)]
    rfl
  have hfit : Fit P k R es.toArray (hget H ma.p).e := by
    refine ⟨?_, ?_, ?_⟩
    · show es.length ≤ maxLen
      have : (1000 : Nat) ≤ maxLen := by decide
      omega
    · rw [stamped_iff]
      exact ⟨fun x hx => f3 x (by simpa using hx), by simpa using f4, by simpa using f5⟩
    · intro x hx
      obtain ⟨a, _, h⟩ := hrd x (by simpa using hx)
      exact ⟨_, h⟩
  have hown : w.ownsMap P k R y es.length (.map ((es.map (rg P k R)).foldr DataW.insert [])) := ⟨es.toArray, _, ho2, hfit, by simp, by simp⟩
  have hsize : Maps.size (.map ((es.map (rg P k R)).foldr DataW.insert []) : DataW Unit) = es.length := by
    rw [Maps.size_eq, (foldr_perm _).length_eq, List.length_map]
  have hkeys : (intKeys (.map ((es.map (rg P k R)).foldr DataW.insert []) : DataW Unit)).Perm ((keysL (hget H ma.p).cs).map fun a => valI 3 a.p) := by
    show (List.map (fun p : Lit × DataW Unit => intOf p.1) _).Perm _
    refine ((foldr_perm _).map _).trans ?_
    rw [List.map_map]
    have e1 : es.map ((fun p : Lit × DataW Unit => intOf p.1) ∘ rg P k R) = es.map (fun x => match x.key with | .int _ n => n | _ => 0) := by
      refine List.map_congr_left fun x hx => ?_
      obtain ⟨a, h1, h2⟩ := hrd x hx
      simp only [Function.comp, rg, h2, h1]
      rfl
    have e2 : es.map (fun x => match x.key with | .int _ n => n | _ => 0) = (es.map (·.key)).map (fun v => match v with | .int _ n => n | _ => 0) := by rw [List.map_map]; rfl
    rw [e1, e2, f1, List.map_map]
    exact List.Perm.refl _
  have hmax : (1000 : Nat) ≤ maxLen := by decide
  have hcall := hS R x y es.length _ w hbm hcellw hown (by rw [hsize]; omega) (by rw [hsize]; omega)
  have hfa : fa.p = g := beq_true.1 c3
  rw [hfa]
  refine Calls.mono hcall fun e' w' he => ?_
  obtain ⟨v, ss, rfl, hperm, hrow, hnil, hbel⟩ := he
  -- the sorted keys
  have hsorted : (ss.mergeSort (fun x y => decide (x ≤ y))).map encZ = (srtL (keysL (hget H ma.p).cs)).map fun a => Value.int .i64 (valI 3 a.p) := by
    have hf2 : ∀ a ∈ srtL (keysL (hget H ma.p).cs), KeyV a := fun a ha => f2 a ((srtL_perm _).mem_iff.1 ha)
    have e3 : (ss.mergeSort (fun x y => decide (x ≤ y))) = (srtL (keysL (hget H ma.p).cs)).map fun a => valI 3 a.p := by
      have tr : ∀ a b c : Int, leI a b = true → leI b c = true → leI a c = true := fun a b c h1 h2 => by simp only [leI, decide_eq_true_eq] at *; exact Int.le_trans h1 h2
      have to : ∀ a b : Int, (leI a b || leI b a) = true := fun a b => by simp only [leI, Bool.or_eq_true, decide_eq_true_eq]; exact Int.le_total a b
      refine List.Perm.eq_of_pairwise (le := fun a b => leI a b = true) (fun a b _ _ h1 h2 => ?_) (List.pairwise_mergeSort tr to ss) ?_ ?_
      · simp only [leI, decide_eq_true_eq] at h1 h2
        exact Int.le_antisymm h1 h2
      · rw [List.pairwise_map]
        have hp := srtL_sorted (keysL (hget H ma.p).cs)
        refine List.Pairwise.imp_of_mem ?_ hp
        intro a b ha hb hab
        simp only [leI, decide_eq_true_eq]
        exact (cmp_val (c := 3) (by omega) (hf2 a ha φ).2.1 (hf2 b hb φ).2.1).2 hab
      · exact ((List.mergeSort_perm ss leI).trans (hperm.trans hkeys)).trans ((srtL_perm _).map _).symm
    rw [e3, List.map_map]
    rfl
  rw [hsorted] at hrow
  have hf2 : ∀ a ∈ srtL (keysL (hget H ma.p).cs), KeyV a := fun a ha => f2 a ((srtL_perm _).mem_iff.1 ha)
  have hbel0 : Below w0.heap.size w0 w' := hr.below.trans (hbel.mono hr.below.size)
  have hkeep : ∀ x, x < w.heap.size → w'.heap[x]? = w.heap[x]? := fun x hx => hbel.block x hx
  have hsl : ss.length = (srtL (keysL (hget H ma.p).cs)).length := by
    have := hrow.1
    rw [List.length_map, Nat.mul_one] at this
    exact this.symm
  generalize srtL (keysL (hget H ma.p).cs) = Ls at *
  cases Ls with
  | nil =>
    have hss : ss = [] := List.eq_nil_of_length_eq_zero (by simpa using hsl)
    have hv := hnil.2 hss
    subst hv
    refine ⟨⟨1, 0, mk1 17 1, H⟩, List.mem_singleton.2 rfl, φ, .nils _ _ _ _, ⟨?_, hr.inj, hr.n, hr.lim, hbel0, hr.gl, hr.op⟩, EX.refl H φ⟩
    intro b x hb
    obtain ⟨h1, h2, o, h3, h4⟩ := hr.blk b x hb
    exact ⟨h1, h2, o, by rw [hkeep x (hlt b x hb).2]; exact h3, h4⟩
  | cons a0 Ls =>
    have hne : v ≠ .slice none 0 0 := fun h => by
      have := hnil.1 h
      rw [this] at hsl
      simp at hsl
    rcases hrow.2 with ⟨h, _⟩ | ⟨gb, cap, cur, rfl, q1, q2, q3, q4, q5, q6⟩
    · exact absurd h hne
    have hres : sortR H (a0 :: Ls) = bi (Nat.ble H.n 32766) [⟨1, 0, slV H.n 0 (lenL (a0 :: Ls)) (lbS (lenL (a0 :: Ls))), hnew H ⟨1, 1, 0, a0 :: Ls⟩⟩] (failC 73) := rfl
    rw [hres] at hall ⊢
    cases c14 : Nat.ble H.n 32766
    · rw [c14] at hall; exact (failC_bad hall).elim
    rw [bi_true]
    have hn := ble_true.1 c14
    have hfree : φ H.n = none := by
      cases h : φ H.n with
      | none => rfl
      | some x => exact absurd (hr.blk _ _ h).1 (by omega)
    let φ' : Ph := ⟨fun b => if b = H.n then some gb else φ b, fun x => if x = gb then cap else φ.k x, φ.op⟩
    have hkk : φ'.k gb = cap := by simp [φ']
    have hkx : ∀ x, x ≠ gb → φ'.k x = φ.k x := fun x hx => by simp [φ', hx]
    have hφn : φ' H.n = some gb := by simp [φ']
    have hold : ∀ b, b ≠ H.n → φ' b = φ b := fun b hne => by simp [φ', hne]
    have hle : Le φ φ' := by
      refine ⟨?_, rfl⟩
      intro b x hb
      have : b ≠ H.n := fun e => by rw [e, hfree] at hb; cases hb
      exact ⟨by rw [hold b this]; exact hb, hkx x (by have := (hlt b x hb).2; omega)⟩
    have hs : (hnew H ⟨1, 1, 0, a0 :: Ls⟩).n = H.n + 1 := rfl
    have hgo : ∀ b, b < H.n → hget (hnew H ⟨1, 1, 0, a0 :: Ls⟩) b = hget H b := fun b hb => by rw [hget_hnew (by omega) (by omega), if_neg (by omega)]
    have hcur : cur.toList = ((a0 :: Ls).map fun a => Value.int .i64 (valI 3 a.p)) ++ cur.toList.drop ss.length := by
      have := List.take_append_drop ss.length cur.toList
      rw [Nat.mul_one] at q6
      rw [q6] at this
      exact this.symm
    have hB' : ∀ x, φ'.k x = cap → BRel P φ' x ⟨1, 1, 0, a0 :: Ls⟩ (.cells cur e (0, 0)) := fun x hx => by
      refine ⟨fun _ => ⟨_, cur.toList.drop ss.length, e, ?_, vrs_vals hf2, ?_, fun _ => ?_⟩, fun h => (by cases h), fun h => (by cases h), (fun h => by exact no41 h)⟩
      · rw [← hcur, Array.toArray_toList]
      · intro a ha
        unfold okCell
        rw [(hf2 a ha φ').2.2]; rfl
      · rw [← hcur, hx]
        show cur.size = cap * 1
        exact q5
    suffices hh : VR φ' (slV H.n 0 (lenL (a0 :: Ls)) (lbS (lenL (a0 :: Ls)))) (.slice (some ⟨gb, 0, none⟩) ss.length cap) ∧ HR P w0 (hnew H ⟨1, 1, 0, a0 :: Ls⟩) φ' w' ∧ EX H φ (hnew H ⟨1, 1, 0, a0 :: Ls⟩) φ' from ⟨_, List.mem_singleton.2 rfl, φ', hh⟩
    refine ⟨?_, ⟨?_, ?_, by omega, by have := hr.lim; show H.lim ≤ _; omega, hbel0, hr.gl.mono hle, hr.op⟩, ⟨hle, ?_, by omega, rfl, ?_, ?_, ?_⟩⟩
    · show VR φ' ⟨11, H.n, 0, lenL (a0 :: Ls), lbS (lenL (a0 :: Ls)), []⟩ _
      rw [lenL_eq, ← hsl]
      exact .sl H.n gb 0 ss.length cap _ [] hφn (by rw [(capS_lb _).1]; exact Nat.le_refl _) (by rw [(capS_lb _).1]; exact q3) (fun h => by rw [(capS_lb _).2] at h; cases h) (fun _ _ => hkk.symm)
    · intro b x hb
      by_cases hbn : b = H.n
      · subst hbn
        rw [hφn] at hb; cases hb
        exact ⟨by omega, fun _ => Nat.le_trans hr.below.size q1, _, q2, by rw [hget_hnew (by omega) (by omega), if_pos rfl]; exact hB' gb hkk⟩
      · rw [hold b hbn] at hb
        obtain ⟨h1, h2, o, h3, h4⟩ := hr.blk b x hb
        have hx := (hlt b x hb).2
        exact ⟨by omega, h2, o, by rw [hkeep x hx]; exact h3, by rw [hgo b h1]; exact h4.mono hle (hkx x (by omega))⟩
    · intro b b' x hb hb' k1 k2
      by_cases hbn : b = H.n
      · by_cases hbn' : b' = H.n
        · rw [hbn, hbn']
        · rw [hbn, hφn] at hb; cases hb
          rw [hold b' hbn'] at hb'
          exact absurd (hlt _ _ hb').2 (by omega)
      · by_cases hbn' : b' = H.n
        · rw [hbn', hφn] at hb'; cases hb'
          rw [hold b hbn] at hb
          exact absurd (hlt _ _ hb).2 (by omega)
        · rw [hold b hbn] at hb
          rw [hold b' hbn'] at hb'
          rw [hgo b (hlt _ _ hb).1] at k1
          rw [hgo b' (hlt _ _ hb').1] at k2
          exact hr.inj b b' x hb hb' k1 k2
    · intro b x hb hnone
      by_cases hbn : b = H.n
      · omega
      · rw [hold b hbn, hnone] at hb; cases hb
    · intro b hb _
      exact hgo b (by have := hr.lim; omega)
    · intro b hb _
      exact hgo b hb
    · intro b hb _ hk
      rw [hgo b hb]; exact hk
end Go.Eng
