
/- A part of the proof that the evaluator in GnC, and the driver in GnZ, answer as the model does; no conditions. -/
import Derived.Test.YtfmoohdaimlggaaGreatDoorGnYa
import Derived.Laws.StructEq
namespace Go.Eng
open Go.RowKit
variable {P : Program} {w0 : World} {H : Hp} {φ : Ph} {c : Kont} {w : World}

/-! ### '==' of structs -/
theorem run_part1 {t : TypeId} {d : TypeDesc} {cs : List Value} {off : Nat} {v : Value} (ht : (tyB P t).run = some d) (hg : isAggT P t = false) (hv : cs[off]? = some v) : (part t cs.toArray off).run P w = .ok v w := by
  simp only [part, Sem.run_bind, run_agg ht, hg, Result.andThen_ok]
  simp [hv]
theorem run_partA {t : TypeId} {d : TypeDesc} {cs : List Value} {off sz : Nat} (ht : (tyB P t).run = some d) (hs : (szB P t).run = some sz) (hg : isAggT P t = true) : (part t cs.toArray off).run P w = .ok (.agg ((cs.drop off).take sz).toArray) w := by
  simp only [part, Sem.run_bind, run_agg ht, hg, Result.andThen_ok, if_true, run_sizeOf hs, Sem.run_pure']
  congr 2
  apply Array.ext'
  simp [List.extract_eq_take_drop]
def EqG (P : Program) (d : Nat) (φ : Ph) (w : World) (t : TypeId) (g : Box (List AV → List AV → Option Bool)) : Prop :=
  ∀ (A B : List AV) (xs ys : List Value) (b : Bool), VRs φ A xs → VRs φ B ys → g.run A B = some b → (Op.equalIn d t (.agg xs.toArray) (.agg ys.toArray)).run P w = .ok b w
theorem om_none' {α β : Type} {o : Option α} {f : α → Option β} {b : β} (h : om o none f = some b) : ∃ a, o = some a ∧ f a = some b := by
  cases o with
  | none => cases h
  | some a => exact ⟨a, rfl, h⟩
theorem bi_none' {β : Type} {x : Bool} {f : Option β} {b : β} (h : bi x f none = some b) : x = true ∧ f = some b := by
  cases x
  · cases h
  · exact ⟨rfl, h⟩
theorem bi_none'' {β : Type} {x : Bool} {f : Option β} {b : β} (h : bi x none f = some b) : x = false ∧ f = some b := by
  cases x
  · exact ⟨rfl, h⟩
  · cases h
theorem nth_tag {A : List AV} {off tag : Nat} (h : (nthL A off).tag = tag) (ht : tag ≠ 18) : ∃ a, A[off]? = some a ∧ nthL A off = a := by
  rw [nthL_eq] at h ⊢
  cases ha : A[off]? with
  | none => rw [ha] at h; exact absurd h.symm ht
  | some a => exact ⟨a, rfl, rfl⟩
theorem cellEq_ok {tag off d : Nat} {t : TypeId} {td : TypeDesc} (ht : (tyB P t).run = some td) (hk : (∃ k, td = .int k ∧ tag = kCode k) ∨ (td = .bool ∧ tag = 8) ∨ (td = .string ∧ tag = 9)) {A B : List AV} {xs ys : List Value} {b : Bool} (hA : VRs φ A xs) (hB : VRs φ B ys)
    (h : (cellEq tag off).run A B = some b) : ∃ x y, (part t xs.toArray off).run P w = .ok x w ∧ (part t ys.toArray off).run P w = .ok y w ∧ (Op.equalIn (d + 1) t x y).run P w = .ok b w := by
  obtain ⟨h1, h⟩ := bi_none' h
  obtain ⟨h2, h⟩ := bi_none' h
  have h18 : tag ≠ 18 := by
    rcases hk with ⟨k, _, rfl⟩ | ⟨_, rfl⟩ | ⟨_, rfl⟩
    · have := kCode_lt k; omega
    · omega
    · omega
  obtain ⟨a, ha, ea⟩ := nth_tag (beq_true.1 h1) h18
  obtain ⟨a', ha', ea'⟩ := nth_tag (beq_true.1 h2) h18
  rw [ea] at h1 h; rw [ea'] at h2 h
  obtain ⟨x, hx, rx⟩ := hA.get ha
  obtain ⟨y, hy, ry⟩ := hB.get ha'
  have hg : isAggT P t = false := by
    unfold isAggT; rw [ht]
    rcases hk with ⟨k, rfl, _⟩ | ⟨rfl, _⟩ | ⟨rfl, _⟩ <;> rfl
  refine ⟨x, y, run_part1 ht hg hx, run_part1 ht hg hy, ?_⟩
  have hb := Option.some.inj h
  subst hb
  rcases hk with ⟨k, rfl, rfl⟩ | ⟨rfl, rfl⟩ | ⟨rfl, rfl⟩
  · obtain ⟨rfl, l1, q1⟩ := rx.of_int (kCode_lt k) (beq_true.1 h1)
    obtain ⟨rfl, l2, q2⟩ := ry.of_int (kCode_lt k) (beq_true.1 h2)
    rw [q1, q2]
    simp only [Op.equalIn, Sem.run_bind, run_und ht, Result.andThen_ok, if_true]
    have : (valI (kCode k) a.p == valI (kCode k) a'.p) = nbeq a.p a'.p := by
      rw [Bool.eq_iff_iff, beq_iff_eq, beq_true]; exact eq_val (kCode_lt k) l1 l2
    rw [this]; rfl
  · obtain ⟨p, rfl, e1, q1⟩ := rx.of_bool (beq_true.1 h1)
    obtain ⟨q, rfl, e2, q2⟩ := ry.of_bool (beq_true.1 h2)
    rw [q1, q2, e1, e2, equalIn_bool ht]
    cases p <;> cases q <;> rfl
  · obtain ⟨p, rfl, e1, q1⟩ := rx.of_str (beq_true.1 h1)
    obtain ⟨q, rfl, e2, q2⟩ := ry.of_str (beq_true.1 h2)
    rw [q1, q2, e1, e2, bytes_eq]
    simp only [Op.equalIn, Sem.run_bind, run_und ht, Result.andThen_ok]
    have : ((⟨p.toArray⟩ : ByteArray) == ⟨q.toArray⟩) = decide (p = q) := by
      show (p.toArray == q.toArray) = _
      rw [Bool.eq_iff_iff, beq_iff_eq, decide_eq_true_eq]; simp
    rw [this]; rfl
theorem eqFs_ok {d : Nat} {ih : TypeId → Option (Box (List AV → List AV → Option Bool))} (hih : ∀ t g, ih t = some g → EqG P (d + 1) φ w t g) : ∀ (l : List Field) (g : Box (List AV → List AV → Option Bool)), eqFs P ih l = some g →
    ∀ (A B : List AV) (xs ys : List Value) (b : Bool), VRs φ A xs → VRs φ B ys → g.run A B = some b → (Op.eqFields (d + 1) xs.toArray ys.toArray l).run P w = .ok b w := by
  intro l
  induction l with
  | nil => intro g h A B xs ys b _ _ hb; cases h; cases hb; rfl
  | cons f l ihl =>
    intro g h A B xs ys b hA hB hb
    obtain ⟨hn, h⟩ := bi_none'' h
    obtain ⟨sz, hs, h⟩ := om_none' h
    obtain ⟨td, ht, h⟩ := om_none' h
    obtain ⟨g1, hg1, h⟩ := om_none' h
    obtain ⟨g2, hg2, h⟩ := om_none' h
    cases h
    obtain ⟨b1, hb1, hb⟩ := om_none' hb
    obtain ⟨b2, hb2, hb⟩ := om_none' hb
    have hb := Option.some.inj hb
    have hn' : f.name ≠ "_" := by simpa using hn
    have key : ∃ x y, (part f.type xs.toArray f.offset).run P w = .ok x w ∧ (part f.type ys.toArray f.offset).run P w = .ok y w ∧ (Op.equalIn (d + 1) f.type x y).run P w = .ok b1 w := by
      cases td <;> simp only [fieldEq, reduceCtorEq] at hg1
      case int k => cases hg1; exact cellEq_ok ht (.inl ⟨k, rfl, rfl⟩) hA hB hb1
      case bool => cases hg1; exact cellEq_ok ht (.inr (.inl ⟨rfl, rfl⟩)) hA hB hb1
      case string => cases hg1; exact cellEq_ok ht (.inr (.inr ⟨rfl, rfl⟩)) hA hB hb1
      case struct fs =>
        obtain ⟨g, hg, h⟩ := om_none' hg1
        cases h
        obtain ⟨x', hx', hb1⟩ := om_none' hb1
        obtain ⟨y', hy', hb1⟩ := om_none' hb1
        rw [dropL_eq] at hx' hy'
        obtain ⟨_, rfl⟩ := takeL_some hx'
        obtain ⟨_, rfl⟩ := takeL_some hy'
        have hga : isAggT P f.type = true := by unfold isAggT; rw [ht]
        exact ⟨_, _, run_partA ht hs hga, run_partA ht hs hga, hih _ _ hg _ _ _ _ _ ((hA.drop _).take _) ((hB.drop _).take _) hb1⟩
    obtain ⟨x, y, h1, h2, h3⟩ := key
    rw [Op.eqFields]
    simp only [if_pos hn', Sem.run_bind, h1, h2, h3, Result.andThen_ok]
    cases b1
    · have hb : false = b := hb
      subst hb; simp
    · have hb : b2 = b := hb
      subst hb
      simpa using ihl g2 hg2 A B xs ys _ hA hB hb2
theorem eqTB_ok (fuel : Nat) : ∀ (d : Nat) (t : TypeId) (g : Box (List AV → List AV → Option Bool)), fuel ≤ d → eqTB P fuel t = some g → EqG P (d + 1) φ w t g := by
  induction fuel with
  | zero => intro d t g _ h; cases h
  | succ fuel ih =>
    intro d t g hd h A B xs ys b hA hB hb
    change (match (tyB P t).run with | some (.struct fs) => bi (P.stoodInHeld t) none (eqFs P (eqTB P fuel) fs.toList) | _ => none) = some g at h
    cases ht : (tyB P t).run with
    | none => rw [ht] at h; cases h
    | some td =>
      rw [ht] at h
      cases td <;> simp only [reduceCtorEq] at h
      case struct fs =>
        obtain ⟨hp, h⟩ := bi_none'' h
        have hf : P.fieldsOf t = fs := by simp [Program.fieldsOf, show P.underlying t = _ from ht]
        obtain ⟨d, rfl⟩ : ∃ d', d = d' + 1 := ⟨d - 1, by omega⟩
        rw [run_equalIn_struct (P := P) w (d + 1) t _ _ (by rw [hf]; exact ht) hp, hf]
        exact eqFs_ok (fun t g hg => ih d t g (by omega) hg) _ _ h A B xs ys b hA hB hb
theorem aggEq_out {want : Bool} {g : Box (List AV → List AV → Option Bool)} {t : TypeId} {x y : Operand} {a b : AV} {va vb : Value} (hm : P.eqGuardType P.depth t = false) (hg : eqTB P 20 t = some g) (ha : VR φ a va) (hb : VR φ b vb) (hr : HR P w0 H φ w) (hok : AllOk ((aggEqC want g).run a b H c)) :
    Out P w0 (BinY P (bi want .eql .neq) t x y va vb w) H φ ((aggEqC want g).run a b H c) c := by
  refine Out.bi hok fun h1 hok => Out.bi hok fun h2 hok => Out.om hok fun e he _ => ?_
  obtain ⟨xs, rfl, hA, _⟩ := ha.of_agg (beq_true.1 h1)
  obtain ⟨ys, rfl, hB, _⟩ := hb.of_agg (beq_true.1 h2)
  rw [nb_eq]
  refine Out.same hr (vr_bool _) ?_
  have := eqTB_ok (P := P) (φ := φ) (w := w) 20 9999 t g (by omega) hg _ _ _ _ _ hA hB he
  simp only [BinY, Sem.run_bind, run_eqGuard_agg w _ t x y _ _ hm, Result.andThen_ok]
  exact eql_of want this (by rintro op (rfl | rfl) <;> rfl)

/-! ### two operands -/
section two
variable {op : BinOp} {t ty : TypeId} {x y : Operand} {a b : AV} {va vb : Value}
theorem bad2 (hok : AllOk (badB2.run a b H c)) : False := failR_bad hok
theorem strOp_out (ha : VR φ a va) (hb : VR φ b vb) (hr : HR P w0 H φ w) (hok : AllOk ((strOpC op).run a b H c)) : Out P w0 (BinY P op t x y va vb w) H φ ((strOpC op).run a b H c) c := by
  cases op <;> simp only [strOpC] at hok ⊢
  case eql => exact strEq_out (want := true) ha hb hr hok
  case neq => exact strEq_out (want := false) ha hb hr hok
  case lss => exact strCmp_out (.inl ⟨rfl, rfl⟩) ha hb hr hok
  case gtr => exact strCmp_out (.inr (.inl ⟨rfl, rfl⟩)) ha hb hr hok
  case leq => exact strCmp_out (.inr (.inr (.inl ⟨rfl, rfl⟩))) ha hb hr hok
  case geq => exact strCmp_out (.inr (.inr (.inr ⟨rfl, rfl⟩))) ha hb hr hok
  case add => exact cat_out ha hb hr hok
  all_goals exact (bad2 hok).elim
theorem nilOp_out {n m : Nat} {d : TypeDesc} (hd : nilKind n m d) (ht : (tyB P t).run = some d) (ha : VR φ a va) (hb : VR φ b vb) (hr : HR P w0 H φ w) (hok : AllOk ((nilOpC op n m).run a b H c)) : Out P w0 (BinY P op t x y va vb w) H φ ((nilOpC op n m).run a b H c) c := by
  cases op <;> simp only [nilOpC] at hok ⊢
  case eql => exact nilEq_out (want := true) hd ht ha hb hr hok
  case neq => exact nilEq_out (want := false) hd ht ha hb hr hok
  all_goals exact (bad2 hok).elim
theorem boolOp_out (ht : (tyB P t).run = some .bool) (ha : VR φ a va) (hb : VR φ b vb) (hr : HR P w0 H φ w) (hok : AllOk ((boolOpC op).run a b H c)) : Out P w0 (BinY P op t x y va vb w) H φ ((boolOpC op).run a b H c) c := by
  cases op <;> simp only [boolOpC] at hok ⊢
  case eql => exact boolEq_out (want := true) ht ha hb hr hok
  case neq => exact boolEq_out (want := false) ht ha hb hr hok
  all_goals exact (bad2 hok).elim
theorem aggOp_out (ha : VR φ a va) (hb : VR φ b vb) (hr : HR P w0 H φ w) (hok : AllOk ((aggOpC P op t).run a b H c)) : Out P w0 (BinY P op t x y va vb w) H φ ((aggOpC P op t).run a b H c) c := by
  unfold aggOpC at hok ⊢
  cases hm : P.eqGuardType P.depth t
  · rw [hm, bi_false] at hok
    rw [bi_false]
    cases hg : eqTB P 20 t with
    | none => rw [hg] at hok; exact (bad2 hok).elim
    | some g =>
      rw [hg, om_some] at hok
      rw [om_some]
      cases op <;> simp only at hok ⊢
      case eql => exact aggEq_out (want := true) hm hg ha hb hr hok
      case neq => exact aggEq_out (want := false) hm hg ha hb hr hok
      all_goals exact (bad2 hok).elim
  · rw [hm] at hok; exact (bad2 hok).elim
theorem VR.of_neg {φ : Ph} {a : AV} {v : Value} (h : VR φ a v) (ht : a.tag = 21) : ∃ n : Int, v = .int .i64 n ∧ n < 0 := by
  cases h <;> simp only at ht <;> first | exact ⟨_, rfl, by assumption⟩ | omega
theorem VR.of_pos {φ : Ph} {a : AV} {v : Value} (h : VR φ a v) (ht : a.tag = 22) : ∃ n : Int, v = .int .i64 n ∧ 0 ≤ n := by
  cases h <;> simp only at ht <;> first | exact ⟨_, rfl, by assumption⟩ | omega
theorem zero_of {b : AV} {vb : Value} (hb : VR φ b vb) (h : bi (nbeq b.tag 3) (nbeq b.p 0) false = true) : vb = .int .i64 0 := by
  cases h3 : nbeq b.tag 3
  · rw [h3] at h; cases h
  · rw [h3, bi_true] at h
    obtain ⟨rfl, _, _⟩ := hb.of_int (c := 3) (by omega) (beq_true.1 h3)
    rw [beq_true.1 h]
    have : valI 3 0 = 0 := by decide +kernel
    rw [this]; rfl
theorem sign_out {f : Box (AV → AV → Hp → Kont → RL)} (hf : intC op 3 = some f) (ha : VR φ a va) (hb : VR φ b vb) (hr : HR P w0 H φ w) (hok : AllOk ((signC op f).run a b H c)) : Out P w0 (BinY P op t x y va vb w) H φ ((signC op f).run a b H c) c := by
  have plain : AllOk (f.run a b H c) → Out P w0 (BinY P op t x y va vb w) H φ (f.run a b H c) c := fun hok => intC_out (by omega) hf ha hb hr hok
  cases op <;> simp only [signC] at hok ⊢
  case lss =>
    refine Out.bi2 hok (fun _ hok => plain hok) fun _ hok => Out.bi hok fun h0 hok => Out.bi2 hok (fun h _ => ?_) fun _ hok => Out.bi hok fun h _ => ?_
    · have := zero_of hb h0; subst this
      obtain ⟨n, rfl, hn⟩ := ha.of_neg (beq_true.1 h)
      exact Out.same hr (vr_bool true) (binY_int (by simp [binOp, Op.intCmp, hn]))
    · have := zero_of hb h0; subst this
      obtain ⟨n, rfl, hn⟩ := ha.of_pos (beq_true.1 h)
      exact Out.same hr (vr_bool false) (binY_int (by simp [binOp, Op.intCmp]; omega))
  case geq =>
    refine Out.bi2 hok (fun _ hok => plain hok) fun _ hok => Out.bi hok fun h0 hok => Out.bi2 hok (fun h _ => ?_) fun _ hok => Out.bi hok fun h _ => ?_
    · have := zero_of hb h0; subst this
      obtain ⟨n, rfl, hn⟩ := ha.of_neg (beq_true.1 h)
      exact Out.same hr (vr_bool false) (binY_int (by simp [binOp, Op.intCmp]; omega))
    · have := zero_of hb h0; subst this
      obtain ⟨n, rfl, hn⟩ := ha.of_pos (beq_true.1 h)
      exact Out.same hr (vr_bool true) (binY_int (by simp [binOp, Op.intCmp, hn]))
  case gtr =>
    refine Out.bi2 hok (fun _ hok => plain hok) fun _ hok => Out.bi hok fun h hok => Out.bi hok fun h3 _ => ?_
    obtain ⟨n, rfl, hn⟩ := ha.of_pos (beq_true.1 h)
    obtain ⟨rfl, _, _⟩ := hb.of_int (c := 3) (by omega) (beq_true.1 h3)
    refine Out.same hr (.opq 1 0 0 0 [] (.bool (decide (n > valI 3 b.p))) ⟨fun _ => ⟨_, rfl⟩, fun h => by omega, fun h => by omega, fun h => by omega⟩ rfl rfl) (binY_int (by simp [binOp, Op.intCmp]; rfl))
  all_goals exact plain hok
theorem intOp_out {k : IntKind} (ha : VR φ a va) (hb : VR φ b vb) (hr : HR P w0 H φ w) (hok : AllOk ((intOpC op k).run a b H c)) : Out P w0 (BinY P op t x y va vb w) H φ ((intOpC op k).run a b H c) c := by
  unfold intOpC at hok ⊢
  cases hf : intC op (kCode k) with
  | none => rw [hf] at hok; exact (bad2 hok).elim
  | some f =>
    rw [hf, om_some] at hok
    rw [om_some]
    cases h3 : nbeq (kCode k) 3
    · rw [h3, bi_false] at hok
      exact intC_out (kCode_lt k) hf ha hb hr hok
    · rw [h3, bi_true] at hok
      rw [beq_true.1 h3] at hf
      exact sign_out hf ha hb hr hok
theorem plain_out (ha : VR φ a va) (hb : VR φ b vb) (hr : HR P w0 H φ w) (hok : AllOk ((plainC P op t).run a b H c)) : Out P w0 (BinY P op t x y va vb w) H φ ((plainC P op t).run a b H c) c := by
  unfold plainC at hok ⊢
  cases ht : (tyB P t).run with
  | none => rw [ht] at hok; exact (bad2 hok).elim
  | some d =>
    rw [ht] at hok
    cases d <;> simp only at hok ⊢
    case int k => exact intOp_out ha hb hr hok
    case string => exact strOp_out ha hb hr hok
    case bool => exact boolOp_out ht ha hb hr hok
    case pointer e => exact nilOp_out (.inl ⟨rfl, rfl, e, rfl⟩) ht ha hb hr hok
    case slice e =>
      refine Out.bi2 hok (fun _ hok => nilOp_out (.inr (.inl ⟨rfl, rfl, e, rfl⟩)) ht ha hb hr hok) fun _ hok => ?_
      cases op
      case eql => exact nilEqY_out (want := true) ht ha hb hr hok
      case neq => exact nilEqY_out (want := false) ht ha hb hr hok
      all_goals exact (bad2 hok).elim
    case map k e => exact nilOp_out (.inr (.inr (.inl ⟨rfl, rfl, k, e, rfl⟩))) ht ha hb hr hok
    case func p r v => exact nilOp_out (.inr (.inr (.inr ⟨rfl, rfl, p, r, v, rfl⟩))) ht ha hb hr hok
    case struct fs => exact aggOp_out ha hb hr hok
    all_goals exact (bad2 hok).elim
theorem shOp_out {left : Bool} (ha : VR φ a va) (hb : VR φ b vb) (hr : HR P w0 H φ w) (hok : AllOk ((shOpC P left t ty).run a b H c)) : Out P w0 (BinY P (bi left .shl .shr) t x y va vb w) H φ ((shOpC P left t ty).run a b H c) c := by
  unfold shOpC at hok ⊢
  split at hok
  · rename_i k d h1 h2
    exact sh_out (kCode_lt k) (kCode_lt d) ha hb hr hok
  · exact (bad2 hok).elim
theorem bin_out (ha : VR φ a va) (hb : VR φ b vb) (hr : HR P w0 H φ w) (hok : AllOk ((binC P op t ty).run a b H c)) :
    Out P w0 (BinY P op t x y va vb w) H φ ((binC P op t ty).run a b H c) c := by
  cases op <;> simp only [binC] at hok ⊢
  case shl => exact shOp_out (left := true) ha hb hr hok
  case shr => exact shOp_out (left := false) ha hb hr hok
  all_goals exact plain_out ha hb hr hok
end two

/-! ### one operand -/
theorem compl_val {k p : Nat} (hk : k < 8) (hp : p < kMod k) : (kOf k).wrap ((BitVec.ofInt (kOf k).bits (if (kOf k).signed then -1 else (kOf k).max) ^^^ BitVec.ofInt (kOf k).bits (valI k p)).toNat : Int) = valI k (Nat.sub (Nat.pred (kMod k)) p) ∧ Nat.sub (Nat.pred (kMod k)) p < kMod k := by
  have e4 : ∀ x y, Nat.sub x y = x - y := fun _ _ => rfl
  have e5 : ∀ x, Nat.pred x = x - 1 := fun _ => rfl
  rw [e5, e4]
  have hpos := @kMod_pos k
  have hall : (BitVec.ofInt (kOf k).bits (if (kOf k).signed then -1 else (kOf k).max)) = BitVec.allOnes (kOf k).bits := by
    refine kinds (p := fun k => (BitVec.ofInt (kOf k).bits (if (kOf k).signed then -1 else (kOf k).max)) = BitVec.allOnes (kOf k).bits) ?_ ?_ ?_ ?_ ?_ ?_ ?_ ?_ hk <;> decide +kernel
  have hx : (BitVec.allOnes (kOf k).bits ^^^ BitVec.ofInt (kOf k).bits (valI k p)).toNat = kMod k - 1 - p := by
    rw [BitVec.allOnes_xor, BitVec.toNat_not, bv_val hk hp, bits_kOf hk]; rfl
  rw [hall, hx]
  exact ⟨back_val hk _ (by omega), by omega⟩
theorem un_out {op : UnOp} {t : TypeId} {a : AV} {va : Value} (ha : VR φ a va) (hr : HR P w0 H φ w) (hok : AllOk ((unC P op t).run a H c)) :
    Out P w0 (fun v w' => (Op.unary op va).run P w = .ok v w') H φ ((unC P op t).run a H c) c := by
  unfold unC at hok ⊢
  split at hok
  · refine Out.bi hok fun h1 _ => ?_
    obtain ⟨b, rfl, e, _⟩ := ha.of_bool (beq_true.1 h1)
    rw [e]
    have : mk1 8 (Nat.sub 1 (bi b 1 0)) = bV (!b) := by cases b <;> rfl
    rw [this]
    exact Out.same hr (vr_bool _) rfl
  · rename_i k h2
    refine Out.bi hok fun h1 _ => ?_
    obtain ⟨rfl, l1, _⟩ := ha.of_int (kCode_lt k) (beq_true.1 h1)
    refine Out.same hr (vr_int (kCode_lt k) (by unfold negN; rw [gt_eq]; exact Nat.mod_lt _ kMod_pos)) ?_
    have h0 : (kOf (kCode k)).wrap (0 - valI (kCode k) a.p) = valI (kCode k) (negN (kCode k) a.p) := by
      refine valI_nat (kCode_lt k) _ ?_
      have e : ((Nat.sub (kMod (kCode k)) a.p : Nat) : Int) = -(a.p : Int) + kMod (kCode k) := by show ((kMod (kCode k) - a.p : Nat) : Int) = _; omega
      have e2 : ((negN (kCode k) a.p : Nat) : Int) = ((Nat.sub (kMod (kCode k)) a.p : Nat) : Int) % (kMod (kCode k) : Int) := by unfold negN; rw [gt_eq]; exact_mod_cast rfl
      rw [e2, e, Int.add_emod_right, Int.sub_emod, valI_mod' l1]
      simp
    simp only [Op.unary, Op.intArith, h0]; rfl
  · rename_i k h2
    refine Out.bi hok fun h1 _ => ?_
    obtain ⟨rfl, l1, _⟩ := ha.of_int (kCode_lt k) (beq_true.1 h1)
    obtain ⟨g1, g2⟩ := compl_val (kCode_lt k) l1
    refine Out.same hr (vr_int (kCode_lt k) g2) ?_
    simp only [Op.unary, Op.intBits]
    rw [← g1]; rfl
  · exact (failR_bad hok).elim
end Go.Eng
