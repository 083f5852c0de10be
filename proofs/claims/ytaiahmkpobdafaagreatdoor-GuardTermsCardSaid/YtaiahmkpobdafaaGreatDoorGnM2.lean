/- A part of the proof that the evaluator in GnC, and the driver in GnZ, answer as the model does; no conditions. -/
import Derived.Test.YtaiahmkpobdafaaGreatDoorGnM
namespace Go.Eng
open Go.RowKit
variable {P : Program} {w0 : World} {H : Hp} {φ φ' φ'' : Ph} {w : World} {n0 : Nat} {L : List (Nat × AB)}

mutual
theorem VR.swap (hlow : ∀ b x, φ b = some x → φ'' b = φ' b) (hk : ∀ x, φ''.k x = φ'.k x) (hop : φ''.op = φ'.op) (hfz : φ''.fz = φ'.fz) (htl : ∀ b x, φ b = some x → φ''.tl b = φ'.tl b) {a : AV} {v0 v : Value} (h : VR φ a v0) (h' : VR φ' a v) : VR φ'' a v := by
  cases h' with
  | int c p r s cs e1 e2 => exact .int c p r s cs e1 e2
  | bool b r s cs => exact .bool b r s cs
  | str l r s cs => exact .str l r s cs
  | ptr b x off r s cs h' => obtain ⟨y, _, hy⟩ := h.of_ptr rfl; exact .ptr b x off r s cs ((hlow b y hy).trans h')
  | sl b x off len cap s cs h' g1 g2 g3 g4 => obtain ⟨y, _, _, hy, _⟩ := h.of_sl rfl; exact .sl b x off len cap s cs ((hlow b y hy).trans h') g1 g2 g3 (fun e1 e2 => (g4 e1 e2).trans (hk x).symm)
  | map b x q r s cs h' => obtain ⟨y, _, hy⟩ := h.of_map rfl; exact .map b x q r s cs ((hlow b y hy).trans h')
  | fn f n r s cs first cap h' h1 => obtain ⟨_, _, _, hy, _⟩ := h.of_fn rfl; exact .fn f n r s cs first cap (VRs.swap hlow hk hop hfz htl hy h') h1
  | yld b x q r s cs h' => obtain ⟨y, _, hy⟩ := h.of_yld rfl; exact .yld b x q r s cs ((hlow b y hy).trans h')
  | agg p q r s cs l h' h1 => obtain ⟨_, _, hy, _⟩ := h.of_agg rfl; exact .agg p q r s cs l (VRs.swap hlow hk hop hfz htl hy h') h1
  | tup p q r s cs l h' => obtain ⟨_, _, hy⟩ := h.of_tup rfl; exact .tup p q r s cs l (VRs.swap hlow hk hop hfz htl hy h')
  | nilp q r s cs => exact .nilp q r s cs
  | nils q r s cs => exact .nils q r s cs
  | nilm q r s cs => exact .nilm q r s cs
  | nilf q r s cs => exact .nilf q r s cs
  | nili q r s cs => exact .nili q r s cs
  | unk => exact .unk _ _ _ _ _ _
  | ud p q r s cs => exact .ud p q r s cs
  | neg p q r s cs n e => exact .neg p q r s cs n e
  | pos p q r s cs n e => exact .pos p q r s cs n e
  | opq p q r s cs _ h1 h2 h3 => exact .opq p q r s cs _ (h1.mono hop) h2 h3
  | frz p q r s cs v h1 => exact .frz p q r s cs v (hfz ▸ h1)
  | fptr p q r s cs v h1 => exact .fptr p q r s cs v (hfz ▸ h1)
  | own b x r s cs e1 e2 e3 =>
    obtain ⟨y, hy, _⟩ := h.of_own rfl rfl
    have t1 : φ''.tl b = φ'.tl b := htl b y hy
    have t2 := hk x
    rw [← t2]
    exact .own b x r s cs ((hlow b y hy).trans e1) (by omega) (by omega)
  | ownn b s cs => exact .ownn b s cs
  | owne b s cs a => exact .owne b s cs a
  | optr b x q r s cs e1 e2 =>
    obtain ⟨y, hy, _⟩ := h.of_optr rfl
    exact .optr b x q r s cs ((hlow b y hy).trans e1) (by rw [htl b y hy]; exact e2)
theorem VRs.swap (hlow : ∀ b x, φ b = some x → φ'' b = φ' b) (hk : ∀ x, φ''.k x = φ'.k x) (hop : φ''.op = φ'.op) (hfz : φ''.fz = φ'.fz) (htl : ∀ b x, φ b = some x → φ''.tl b = φ'.tl b) {a : List AV} {v0 v : List Value} (h : VRs φ a v0) (h' : VRs φ' a v) : VRs φ'' a v := by
  cases h' with
  | nil => exact .nil
  | cons g1 g2 => cases h with
    | cons e1 e2 => exact .cons (VR.swap hlow hk hop hfz htl e1 g1) (VRs.swap hlow hk hop hfz htl e2 g2)
end
theorem Ents.swap (hlow : ∀ b x, φ b = some x → φ'' b = φ' b) (hk : ∀ x, φ''.k x = φ'.k x) (hop : φ''.op = φ'.op) (hfz : φ''.fz = φ'.fz) (htl : ∀ b x, φ b = some x → φ''.tl b = φ'.tl b) {kt ck : Nat} {cs : List AV} {e : List MapEntry} (h' : Ents φ' kt ck cs e) : ∀ {e0 : List MapEntry}, Ents φ kt ck cs e0 → Ents φ'' kt ck cs e := by
  induction h' with
  | nil => exact fun _ => .nil
  | cons g1 g2 g3 g4 _ ih =>
    intro e0 h
    cases h with
    | cons f1 f2 f3 f4 f5 => exact .cons (VR.swap hlow hk hop hfz htl f1 g1) g2 (VR.swap hlow hk hop hfz htl f3 g3) g4 (ih f5)
theorem BRel.swap (hlow : ∀ b x, φ b = some x → φ'' b = φ' b) (hk : ∀ x, φ''.k x = φ'.k x) (hop : φ''.op = φ'.op) (hfz : φ''.fz = φ'.fz) (htl : ∀ b x, φ b = some x → φ''.tl b = φ'.tl b) {x : Nat} {B : AB} {o0 o : Obj} (h : BRel P φ x B o0) (h' : BRel P φ' x B o) : BRel P φ'' x B o where
  cells hB := by
    obtain ⟨l0, r0, t0, _, f1, _⟩ := h.cells hB
    obtain ⟨l, r, t, e1, e2, e3, e4⟩ := h'.cells hB
    exact ⟨l, r, t, e1, VRs.swap hlow hk hop hfz htl f1 e2, e3, fun he => by rw [hk]; exact e4 he⟩
  map hB := by
    obtain ⟨es0, _, f1, _⟩ := h.map hB
    obtain ⟨es, e1, e2, e3⟩ := h'.map hB
    exact ⟨es, e1, Ents.swap hlow hk hop hfz htl e2 f1, e3⟩
  walk hB := by
    obtain ⟨m0, s0, r0, f1, f2, _⟩ := h.walk hB
    obtain ⟨m, s, r, e1, e2, e3⟩ := h'.walk hB
    rw [e1] at f1
    injection f1 with f1 _
    subst f1
    exact ⟨m, s, r, e1, VR.swap hlow hk hop hfz htl f2 e2, e3⟩
  ext hB := by
    rcases h'.ext hB with e | ⟨e, rec, f, rp, fn, top, g, T, e1, e2⟩ | ⟨e, l, r, t, fr, e1, e2, e3, e4, e5, e6⟩
    · exact .inl e
    rotate_left
    · rcases h.ext hB with e' | ⟨e', _⟩ | ⟨_, l0, r0, t0, fr0, f1, f2, f3⟩
      · exact absurd e'.1 (by omega)
      · exact absurd e' (by omega)
      · exact .inr (.inr ⟨e, l, r, t, fr, e1, hfz ▸ e2, e3, e4, by rw [hk]; exact e5, e6⟩)
    · rcases h.ext hB with e' | ⟨_, rec', f', rp', fn', top', g', T', _, e2'⟩ | ⟨e', _⟩
      · exact absurd e'.1 (by omega)
      rotate_left
      · exact absurd e' (by omega)
      · refine .inr <| .inl ⟨e, rec, f, rp, fn, top, g, T, e1, ⟨e2.hfn, e2.htop, e2.code, e2.cs, e2.mks, e2.size, fun t => ?_, e2.st, e2.pend⟩⟩
        have hT : T' = T := by
          have := e2'.cs.symm.trans e2.cs
          injection this with _ h2
          injection h2 with h2
          rw [← decF_encF T', h2, decF_encF]
        have hv := e2'.val t
        rw [hT] at hv
        exact VR.swap hlow hk hop hfz htl hv (e2.val t)

theorem blkAV_eq (l : List (Nat × AB)) : blkAV l = tupV (l.map fun a => ⟨a.2.kind, a.2.t, a.2.e, 0, 0, a.2.cs⟩) := by
  unfold blkAV
  refine congrArg tupV ?_
  induction l with
  | nil => rfl
  | cons a l ih => exact congrArg (_ :: ·) ih
theorem sameM_eq {m m' : AV × List (Nat × AB)} (h : sameM m m' = true) : m.1 = m'.1 ∧ m.2.map (·.2) = m'.2.map (·.2) := by
  obtain ⟨h1, h2⟩ := bi_and.1 h
  refine ⟨eqA_eq _ _ _ h1, ?_⟩
  have h3 := eqA_eq _ _ _ h2
  rw [blkAV_eq, blkAV_eq] at h3
  have h4 := congrArg AV.cs h3
  simp only [tupV] at h4
  have : ∀ l l' : List (Nat × AB), l.map (fun a => (⟨a.2.kind, a.2.t, a.2.e, 0, 0, a.2.cs⟩ : AV)) = l'.map (fun a => ⟨a.2.kind, a.2.t, a.2.e, 0, 0, a.2.cs⟩) → l.map (·.2) = l'.map (·.2) := by
    intro l
    induction l with
    | nil => intro l' h; cases l' with
      | nil => rfl
      | cons _ _ => cases h
    | cons a l ih => intro l' h; cases l' with
      | nil => cases h
      | cons b l' =>
        simp only [List.map_cons, List.cons.injEq] at h ⊢
        refine ⟨?_, ih l' h.2⟩
        obtain ⟨a1, ⟨ak, at', ae, ac⟩⟩ := a
        obtain ⟨b1, ⟨bk, bt, be, bc⟩⟩ := b
        simp at h ⊢
        exact h.1
  exact this _ _ h4
theorem addAll_eq {l l' : List (Nat × AB)} (h : l.map (·.2) = l'.map (·.2)) : ∀ H, addAll l H = addAll l' H := by
  induction l generalizing l' with
  | nil => cases l' with
    | nil => exact fun _ => rfl
    | cons _ _ => cases h
  | cons a l ih => cases l' with
    | nil => cases h
    | cons b l' =>
      intro H
      simp only [List.map_cons, List.cons.injEq] at h
      show addAll l (hnew H a.2) = addAll l' (hnew H b.2)
      rw [h.1]; exact ih h.2 _
theorem addAll_n (l : List (Nat × AB)) : ∀ H, (addAll l H).n = H.n + l.length ∧ (addAll l H).lim = H.lim := by
  induction l with
  | nil => exact fun _ => ⟨rfl, rfl⟩
  | cons a l ih =>
    intro H
    obtain ⟨h1, h2⟩ := ih (hnew H a.2)
    refine ⟨?_, h2⟩
    show (addAll l (hnew H a.2)).n = _
    rw [h1, hnew_n]
    show H.n + 1 + l.length = H.n + (l.length + 1)
    omega
theorem addAll_low {b : Nat} (l : List (Nat × AB)) : ∀ H, H.n + l.length ≤ 32767 → b < H.n → hget (addAll l H) b = hget H b := by
  induction l with
  | nil => exact fun _ _ _ => rfl
  | cons a l ih =>
    intro H hn hb
    simp only [List.length_cons] at hn
    have e : (hnew H a.2).n = H.n + 1 := hnew_n _ _
    show hget (addAll l (hnew H a.2)) b = _
    rw [ih (hnew H a.2) (by omega) (by omega), hget_hnew (by omega) (by omega), if_neg (by omega)]
theorem addAll_at (l : List (Nat × AB)) : ∀ H i a, H.n + l.length ≤ 32767 → l[i]? = some a → hget (addAll l H) (H.n + i) = a.2 := by
  induction l with
  | nil => intro H i a _ h; simp at h
  | cons x l ih =>
    intro H i a hn h
    simp only [List.length_cons] at hn
    have e : (hnew H x.2).n = H.n + 1 := hnew_n _ _
    show hget (addAll l (hnew H x.2)) _ = _
    cases i with
    | zero =>
      simp at h; subst h
      rw [addAll_low l _ (by omega) (by omega), hget_hnew (by omega) (by omega), if_pos (by omega)]
    | succ i =>
      have := ih (hnew H x.2) i a (by omega) (by simpa using h)
      rw [show H.n + (i + 1) = (hnew H x.2).n + i by omega]
      exact this
theorem hasN_false {n : Nat} {l : List (Nat × AB)} (h : hasN n l = false) : ∀ a ∈ l, a.1 ≠ n := by
  induction l with
  | nil => intro a ha; cases ha
  | cons b l ih =>
    have h' : bi (nbeq b.1 n) true (hasN n l) = false := h
    intro a ha
    cases hb : nbeq b.1 n
    · rw [hb, bi_false] at h'
      cases ha with
      | head => exact beq_false.1 hb
      | tail _ ha => exact ih h' a ha
    · rw [hb] at h'; cases h'
theorem nodupN_inj {l : List (Nat × AB)} (h : nodupN l = true) : ∀ (i j : Nat) (a b : Nat × AB), l[i]? = some a → l[j]? = some b → a.1 = b.1 → i = j := by
  induction l with
  | nil => intro i j a b h; simp at h
  | cons x l ih =>
    have h' : bi (hasN x.1 l) false (nodupN l) = true := h
    cases hx : hasN x.1 l
    · rw [hx, bi_false] at h'
      have hne := hasN_false hx
      intro i j a b hi hj hab
      cases i with
      | zero => cases j with
        | zero => rfl
        | succ j =>
          simp at hi hj; subst hi
          exact absurd hab.symm (hne b (List.mem_of_getElem? hj))
      | succ i => cases j with
        | zero =>
          simp at hi hj; subst hj
          exact absurd hab (hne a (List.mem_of_getElem? hi))
        | succ j => rw [ih h' i j a b (by simpa using hi) (by simpa using hj) hab]
    · rw [hx] at h'; cases h'
theorem HR.lock (h : HR P w0 H φ w) : HR P w0 (lockH H) φ w := ⟨fun b x hb => by
  obtain ⟨h1, h2, h3⟩ := h.blk b x hb
  exact ⟨h1, fun hl => h2 (Nat.le_trans h.lim hl), h3⟩, h.inj, h.n, Nat.le_refl _, h.below, h.gl, h.op, fun x C hx => ⟨(h.fz x C hx).1, fun b hb hl => (h.fz x C hx).2 b hb (Nat.le_trans h.lim hl)⟩, h.tl, h.fo⟩
/-- one result, copied out behind the memory that was there -/
theorem copy_ok {c : CRes} {m : AV × List (Nat × AB)} {v : Value} {w' : World} (hr : HR P w0 H φ w) (hv : VR φ' c.v v) (hr' : HR P w0 c.H φ' w') (hex : EX (lockH H) φ c.H φ') (hm : matR H c = some m) (hn : H.n + m.2.length ≤ 32766) :
    ∃ φ'', VR φ'' m.1 v ∧ HR P w0 (addAll m.2 H) φ'' w' ∧ EX H φ (addAll m.2 H) φ'' := by
  have hm' : matV c.H H.n 20 c.v [] = some m ∧ nodupN m.2 = true := by
    have h1 : bi (nbeq c.ok 1) (om (matV c.H H.n 20 c.v []) none fun y => bi (nodupN y.2) (some y) none) none = some m := hm
    cases hb : nbeq c.ok 1
    · rw [hb] at h1; cases h1
    · rw [hb, bi_true] at h1
      cases hmv : matV c.H H.n 20 c.v [] with
      | none => rw [hmv] at h1; cases h1
      | some y =>
        rw [hmv, om_some] at h1
        cases hnd : nodupN y.2
        · rw [hnd] at h1; cases h1
        · rw [hnd] at h1; cases h1; exact ⟨rfl, hnd⟩
  obtain ⟨hmv, hnd⟩ := hm'
  let φ'' : Ph := ⟨fun b => if b < H.n then φ' b else (m.2[b - H.n]?).bind fun a => φ' a.1, φ'.k, φ'.op, φ'.fz, fun b => if b < H.n then φ'.tl b else ((m.2[b - H.n]?).map fun a => φ'.tl a.1).getD 0⟩
  have hlow : ∀ b, b < H.n → φ'' b = φ' b := fun b hb => by simp [φ'', hb]
  have hk : ∀ x, φ''.k x = φ'.k x := fun _ => rfl
  have hnew : ∀ i a, m.2[i]? = some a → φ'' (H.n + i) = φ' a.1 := fun i a ha => by
    have : ¬ H.n + i < H.n := by omega
    have e : H.n + i - H.n = i := by omega
    show (if H.n + i < H.n then φ' (H.n + i) else (m.2[H.n + i - H.n]?).bind fun a => φ' a.1) = _
    rw [if_neg this, e, ha]; rfl
  obtain ⟨_, hall⟩ := matV_ok hr' hlow hk rfl hnew 20 _ _ _ hmv
  obtain ⟨hv'', _, hgood⟩ := hall List.prefix_rfl v hv
  have hgood : ∀ a ∈ m.2, GoodM P c.H H.n φ' φ'' a := fun a ha => (hgood a ha).resolve_left (by simp)
  have hold : ∀ b x, b < H.n → φ' b = some x → φ b = some x := by
    intro b x hb hx
    cases hφ : φ b with
    | none => exact absurd (hex.fresh b x hx hφ) (by show ¬ H.n ≤ b; omega)
    | some y => rw [(hex.keep b y hφ).1] at hx; exact hx
  have hsplit : ∀ b x, φ'' b = some x → (b < H.n ∧ φ' b = some x ∧ φ b = some x) ∨ (∃ i a, b = H.n + i ∧ m.2[i]? = some a ∧ φ' a.1 = some x ∧ GoodM P c.H H.n φ' φ'' a) := by
    intro b x hx
    by_cases hb : b < H.n
    · have h1 := (hlow b hb) ▸ hx
      exact .inl ⟨hb, h1, hold b x hb h1⟩
    · right
      have h1 : ((m.2[b - H.n]?).bind fun a => φ' a.1) = some x := by
        have : φ'' b = (m.2[b - H.n]?).bind fun a => φ' a.1 := by simp [φ'', hb]
        rw [← this]; exact hx
      cases ha : m.2[b - H.n]? with
      | none => rw [ha] at h1; cases h1
      | some a => rw [ha] at h1; exact ⟨b - H.n, a, by omega, ha, h1, hgood a (List.mem_of_getElem? ha)⟩
  have hH : ∀ b, b < H.n → hget c.H b = hget H b := fun b hb => by
    have h1 := hr.n
    exact hex.low b hb (by omega)
  have hn' : H.n + m.2.length ≤ 32767 := by omega
  have hkeep : ∀ b x, φ b = some x → φ'' b = φ' b := fun b x hb => hlow b (hr.blk b x hb).1
  refine ⟨φ'', hv'', ⟨?_, ?_, by rw [(addAll_n _ _).1]; exact hn', by rw [(addAll_n _ _).1, (addAll_n _ _).2]; have := hr.lim; omega, hr'.below, fun g hg => (hkeep g _ (hr.gl g hg)).trans (hex.keep g _ (hr.gl g hg)).1, hr'.op, ?_, ?_, hr'.fo⟩, ⟨?_, ?_, by rw [(addAll_n _ _).1]; omega, (addAll_n _ _).2, ?_, ?_, ?_, ?_⟩⟩
  · intro b x hx
    rw [(addAll_n _ _).1]
    rcases hsplit b x hx with ⟨h1, h2, h3⟩ | ⟨i, a, rfl, h1, h2, h3⟩
    · obtain ⟨_, g2, o, g3, g4⟩ := hr'.blk b x h2
      obtain ⟨_, g2', o0, _, g5⟩ := hr.blk b x h3
      refine ⟨by omega, by rw [(addAll_n _ _).2]; exact g2', o, g3, ?_⟩
      rw [addAll_low _ _ hn' h1]
      rw [hH b h1] at g4
      exact BRel.swap hkeep hk rfl rfl (fun b x hb => if_pos (hr.blk b x hb).1) g5 g4
    · obtain ⟨_, g2, o, g3, g4⟩ := hr'.blk a.1 x h2
      have hi := (List.getElem?_eq_some_iff.1 h1).1
      refine ⟨by omega, fun _ => g2 (by rw [hex.lim]; exact h3.1), o, g3, ?_⟩
      rw [addAll_at _ _ _ _ hn' h1]
      exact h3.2.2.2.2 x o g4
  · intro b b' x hb hb' k1 k2
    rcases hsplit b x hb with ⟨h1, h2, h3⟩ | ⟨i, a, rfl, h1, h2, h3⟩ <;> rcases hsplit b' x hb' with ⟨h1', h2', h3'⟩ | ⟨j, a', rfl, h1', h2', h3'⟩
    · rw [addAll_low _ _ hn' h1] at k1
      rw [addAll_low _ _ hn' h1'] at k2
      exact hr.inj b b' x h3 h3' k1 k2
    · rw [addAll_low _ _ hn' h1, ← hH b h1] at k1
      have := hr'.inj b a'.1 x h2 h2' k1 h3'.2.2.2.1
      have := h3'.1
      omega
    · rw [addAll_low _ _ hn' h1', ← hH b' h1'] at k2
      have := hr'.inj a.1 b' x h2 h2' h3.2.2.2.1 k2
      have := h3.1
      omega
    · have e := hr'.inj a.1 a'.1 x h2 h2' h3.2.2.2.1 h3'.2.2.2.1
      rw [nodupN_inj hnd i j a a' h1 h1' e]
  · intro x C hx
    refine ⟨(hr'.fz x C hx).1, fun b hb hl => ?_⟩
    rw [(addAll_n _ _).2] at hl
    rcases hsplit b x hb with ⟨h1, h2, h3⟩ | ⟨i, a, rfl, h1, h2, h3⟩
    · rw [addAll_low _ _ hn' h1]
      rcases hex.fzn x C hx with e | e
      · exact (hr.fz x C e).2 b h3 hl
      · rcases e b (by omega) h3 with e | e
        · have : H.n ≤ b := e
          omega
        · exact .inl e
    · rw [addAll_at _ _ _ _ hn' h1]
      have h4 := (hr'.fz x C hx).2 a.1 h2 (by rw [hex.lim]; exact h3.1)
      have h5 := h3.2.2.1
      have h6 := h3.2.2.2.1
      omega
  · intro b x hb hk
    rcases hsplit b x hb with ⟨h1, h2, h3⟩ | ⟨i, a, rfl, h1, h2, h3⟩
    · rw [addAll_low _ _ hn' h1] at hk ⊢
      show _ = if b < H.n then φ'.tl b else _
      rw [if_pos h1]
      exact (hr.tl b x h3 hk).trans (hex.keep.tl b x h3).symm
    · rw [addAll_at _ _ _ _ hn' h1] at hk
      have h5 := h3.2.2.1
      omega
  · exact ⟨fun b x hb => ⟨(hkeep b x hb).trans (hex.keep b x hb).1, (hex.keep b x hb).2⟩, hex.keep.op, hex.keep.fz, fun b x hb => (if_pos (hr.blk b x hb).1).trans (hex.keep.tl b x hb)⟩
  · intro b x hb hnone
    rcases hsplit b x hb with ⟨h1, h2, h3⟩ | ⟨i, a, rfl, _⟩
    · rw [h3] at hnone; cases hnone
    · omega
  · intro b hb _
    exact addAll_low _ _ hn' (by have := hr.lim; omega)
  · intro b hb _ _
    exact addAll_low _ _ hn' hb
  · intro b hb _ hk
    rw [addAll_low _ _ hn' hb]; exact hk
  · intro x C hx
    rcases hex.fzn x C hx with e | e
    · exact .inl e
    · exact .inr fun b hbb hb => by
        have h2 := (hr.blk b x hb).1
        rcases e b hbb hb with e | e
        · have h1 : H.n ≤ b := e
          omega
        · exact .inr e
end Go.Eng
