
/- A part of the proof that the evaluator in GnC, and the driver in GnZ, answer as the model does; no conditions. -/
import Derived.Test.YtfmoohdaimlggaaGreatDoorGnZF
namespace Go.Eng
open Go.RowKit
variable {P : Program} {w0 : World} {H Hb : Hp} {φ φ0 : Ph} {w : World} {N : Nat} {T : Fr} {a : Act} {lab : Lab} {r : Rec} {fin : BR} {top : Code} {L : RL}

theorem getB_unkFr (t : Nat) : (getB t).run unkFr = unkV := by
  by_cases ht : t < 511
  · rw [getB_small ht]
    have key : ∀ {α : Type} (x : α) (j : Nat), (get1 j).run (ndAll x) = x := by
      intro α x j
      unfold get1 ndAll
      split <;> rfl
    unfold unkFr
    rw [key, key, key]
  · exact getB_big (by omega) _
/-- the memory with which a function begins -/
structure BaseY (P : Program) (w0 : World) (Hb : Hp) (φ0 : Ph) : Prop where
  lim : Hb.lim = Hb.n
  hr : HR P w0 Hb φ0 w0
  nex : ∀ b x, φ0 b = some x → ¬ exB φ0 x
theorem base_ent (hb : BaseY P w0 Hb φ0) (hs : St P w0 N Hb φ0 T H φ a w) : Ent P w0 N Hb H φ0 φ a w unkFr Hb ⟨fun b => if b < Hb.n then φ b else none, φ.k, φ.op, φ.fz, φ.tl⟩ [] := by
  have hlt : ∀ b x, φ0 b = some x → b < Hb.n ∧ x < w0.heap.size := fun b x h => by
    obtain ⟨h1, _, o, h3, _⟩ := hb.hr.blk b x h
    exact ⟨h1, (Array.getElem?_eq_some_iff.1 h3).1⟩
  have hback : ∀ b x, b < Hb.n → φ b = some x → φ0 b = some x := by
    intro b x hbn h
    cases h0 : φ0 b with
    | none => exact absurd (hs.ex.fresh b x h h0) (by omega)
    | some y => rw [(hs.ex.keep b y h0).1] at h; exact h
  have hn := hb.hr.n
  have hlow : ∀ b, b < Hb.n → hget H b = hget Hb b := fun b hbn => hs.ex.low b (by rw [hb.lim]; exact hbn) (by omega)
  let φs : Ph := ⟨fun b => if b < Hb.n then φ b else none, φ.k, φ.op, φ.fz, φ.tl⟩
  have hφs : ∀ b x, φs b = some x → b < Hb.n ∧ φ b = some x := by
    intro b x h
    have h' : (if b < Hb.n then φ b else none) = some x := h
    by_cases hbn : b < Hb.n
    · rw [if_pos hbn] at h'; exact ⟨hbn, h'⟩
    · rw [if_neg hbn] at h'; cases h'
  have hle : Le φ0 φs := by
    refine ⟨fun b x h => ⟨?_, (hs.ex.keep b x h).2⟩, hs.ex.keep.op, hs.ex.keep.fz, hs.ex.keep.tl⟩
    show (if b < Hb.n then φ b else none) = some x
    rw [if_pos (hlt b x h).1]; exact (hs.ex.keep b x h).1
  refine ⟨⟨?_, ?_, hb.hr.n, hb.hr.lim, hs.hr.below.op rfl, hb.hr.gl.mono hle, hs.hr.op, ?_, ?_, hs.hr.fo⟩, ⟨hle, ?_, Nat.le_refl _, rfl, fun _ _ _ => rfl, fun _ _ _ _ => rfl, fun _ _ _ h => h, hs.ex.fzn⟩, ?_, rfl, rfl, rfl, hb.lim, Nat.le_refl _, ?_, ?_⟩
  · intro b x h
    obtain ⟨hbn, h⟩ := hφs b x h
    have h0 := hback b x hbn h
    obtain ⟨_, _, o, h3, h4⟩ := hb.hr.blk b x h0
    refine ⟨hbn, fun hl => by rw [hb.lim] at hl; omega, o, ?_, h4.mono hle (hs.ex.keep b x h0).2⟩
    rw [hs.hr.below.block x (hlt b x h0).2 (fun hx => hb.nex b x h0 (by unfold exB at hx ⊢; rwa [← hs.ex.keep.op]))]; exact h3
  · intro b b' x h h' k1 k2
    obtain ⟨hbn, h⟩ := hφs b x h
    obtain ⟨hbn', h'⟩ := hφs b' x h'
    rw [← hlow b hbn] at k1
    rw [← hlow b' hbn'] at k2
    exact hs.hr.inj b b' x h h' k1 k2
  · intro x C hx
    exact ⟨(hs.hr.fz x C hx).1, fun b h hl => by have := (hφs b x h).1; rw [hb.lim] at hl; omega⟩
  · intro b x h hk
    obtain ⟨hbn, h⟩ := hφs b x h
    rw [← hlow b hbn] at hk ⊢
    exact hs.hr.tl b x h hk
  · intro b x h h0
    obtain ⟨hbn, h⟩ := hφs b x h
    rw [hback b x hbn h] at h0; cases h0
  · intro t
    rw [getB_unkFr]; exact .unk _ _ _ _ _ _
  · intro b x h hk
    exact .inl (hφs b x h).1
  · intro b hbn
    show (if b < Hb.n then φ b else none) = φ b
    rw [if_pos hbn]
theorem marks_defers {φ : Ph} (ht : TR P φ N T a) (h : nbeq (lenL (marksT T)) 0 = true) : a.defers = [] := by
  have := beq_true.1 h
  rw [lenL_eq] at this
  have e := List.length_eq_zero_iff.1 this
  have hd := ht.defers
  rw [e] at hd
  exact hd
theorem jump_ok (hL : AllOk L) (hb : BaseY P w0 Hb φ0) {q : List Nat} {c : Code} {k : Nat → BR} {ks : Nat → List (Nat × BR)} (hctx : ∀ n, ctxAt P N lab fin top (jmpN P N lab Hb r fin top n) q = some ⟨c, k n, ks n⟩)
    {m : Nat} (hs : St P w0 N Hb φ0 T H φ a w) (h : ∀ x ∈ (jumpY P lab (jmpN P N lab Hb r fin top m) q).run r T H, x ∈ L) :
    ∃ m', m = m' + 1 ∧ ∃ T' H' φ', St P w0 N Hb φ0 T' H' φ' a w ∧ ∀ x ∈ (compY P N lab fin (jmpN P N lab Hb r fin top m') q c (k m') (ks m')).run r T' H', x ∈ L := by
  have h' : ∀ x ∈ om (lab q) (failR 240) (fun live => om (frzS P live T H) (failR 239) fun x => om (hookY x.1 x.2 live) (failR 241) fun ds => jmpN P N lab Hb r fin top m q ds), x ∈ L := h
  cases hl : lab q with
  | none => rw [hl] at h'; exact (failR_sub hL h').elim
  | some live =>
    rw [hl, om_some] at h'
    cases hfz : frzS P live T H with
    | none => rw [hfz] at h'; exact (failR_sub hL h').elim
    | some xz =>
    rw [hfz, om_some] at h'
    obtain ⟨φz, hs⟩ := frzS_ok live T H φ xz hfz hs
    obtain ⟨T, H⟩ := xz
    simp only [] at h' hs
    cases hk : hookY T H live with
    | none => rw [hk] at h'; exact (failR_sub hL h').elim
    | some ds =>
      rw [hk, om_some] at h'
      cases m with
      | zero => exact (failR_sub hL h').elim
      | succ m =>
        refine ⟨m, rfl, ?_⟩
        have h2 : ∀ x ∈ om (ctxAt P N lab fin top (jmpN P N lab Hb r fin top m) q) (failR 247) (fun x => om (lab q) (failR 247) fun live => bi (slotsB live) (enterY live ds unkFr Hb fun T H => (compY P N lab fin (jmpN P N lab Hb r fin top m) q x.c x.k x.ks).run r T H) (failR 247)), x ∈ L := h'
        rw [hctx m, om_some, hl, om_some] at h2
        cases hsl : slotsB live
        · rw [hsl] at h2; exact (failR_sub hL h2).elim
        · rw [hsl, bi_true] at h2
          obtain ⟨hc, hh⟩ := bi_none' (show bi (bi (nbeq (lenL (marksT T)) 0) (nodupQ (ownQs T H live)) false) (hookL T H live) none = some ds from hk)
          obtain ⟨hc1, hc2⟩ := bi_and.1 hc
          obtain ⟨T', H', φ', Q', he, hx⟩ := enter_ok hL hs hb.lim live ds unkFr Hb _ [] hsl hh (by simpa using nodupQ_ok hc2) (base_ent hb hs) h2
          exact ⟨T', H', φ', ⟨⟨hs.tr.size, he.val, by rw [he.marks]; exact marks_defers hs.tr hc1, he.hr.gl⟩, he.hr, he.ex⟩, hx⟩
/-- the rest of the code leads from here to what is listed, with so much fuel at the most -/
def OnY (P : Program) (w0 : World) (r : Rec) (N : Nat) (Hb : Hp) (φ0 : Ph) (L : RL) (n : Nat) (k : Nat → BR) (a : Act) (w : World) : Prop :=
  ∃ m, m ≤ n ∧ ∃ T H φ, St P w0 N Hb φ0 T H φ a w ∧ ∀ x ∈ (k m).run r T H, x ∈ L
theorem OnY.mono {n n' : Nat} {k : Nat → BR} (hn : n ≤ n') (h : OnY P w0 r N Hb φ0 L n k a w) : OnY P w0 r N Hb φ0 L n' k a w := by
  obtain ⟨m, h1, h2⟩ := h
  exact ⟨m, Nat.le_trans h1 hn, h2⟩
theorem On.y {n m : Nat} {k : Nat → BR} (hm : m ≤ n) (h : On P w0 r N Hb φ0 L (k m) a w) : OnY P w0 r N Hb φ0 L n k a w := by
  obtain ⟨T, H, φ, h1, h2⟩ := h
  exact ⟨m, hm, T, H, φ, h1, h2⟩
def QYY (P : Program) (w0 : World) (r : Rec) (N : Nat) (Hb : Hp) (φ0 : Ph) (L : RL) (fin : BR) (n : Nat) (k : Nat → BR) (ks : Nat → List (Nat × BR)) : Exit → Act → World → Prop
  | .normal, a, w => OnY P w0 r N Hb φ0 L n k a w
  | .exit i, a, w => OnY P w0 r N Hb φ0 L n (fun m => exitY i (ks m)) a w
  | .ret, a, w => OnY P w0 r N Hb φ0 L n (fun _ => fin) a w
  | _, _, _ => False
theorem QYY.mono {n n' : Nat} {k : Nat → BR} {ks : Nat → List (Nat × BR)} (hn : n ≤ n') : ∀ (e : Exit) (a : Act) (w : World), QYY P w0 r N Hb φ0 L fin n k ks e a w → QYY P w0 r N Hb φ0 L fin n' k ks e a w := by
  intro e a w h
  cases e with
  | normal => exact OnY.mono hn h
  | exit i => exact OnY.mono hn h
  | ret => exact OnY.mono hn h
  | _ => exact h.elim
end Go.Eng
