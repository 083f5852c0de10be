
/- A part of the proof that the evaluator in GnC, and the driver in GnZ, answer as the model does; no conditions. -/
import Derived.Test.YtfmoohdaimlggaaGreatDoorGnS11
import Derived.Laws.Strings3
namespace Go.Eng
open Go.RowKit
variable {P : Program} {w0 : World} {H : Hp} {φ : Ph} {c : Kont} {w : World}

/-! ### x[l:h] -/
def LoOK (φ : Ph) (lo : Option Value) (l : AV) : Prop := (lo = none ∧ l.p = 0) ∨ ∃ v, lo = some v ∧ VR φ l v
def HiOK (φ : Ph) (hi : Option Value) (hasHi : Bool) (h : AV) : Prop := (hi = none ∧ hasHi = false) ∨ ∃ v, hi = some v ∧ hasHi = true ∧ VR φ h v
theorem run_bound {a : AV} {v : Value} {n m : Nat} {code : BoundsCode} (ha : VR φ a v) (h : ixOk a n = true) (hm : n ≤ m) : (Instr.sliceBound v m code).run P w = .ok a.p w := by
  obtain ⟨k, rfl, hi⟩ := ixOk_val ha h
  have : (0:Int) ≤ (a.p : Int) ∧ (a.p : Int) ≤ (m : Int) := by omega
  simp only [Instr.sliceBound, asIntOf, Sem.run_bind, Sem.run_pure', Result.andThen_ok, this, and_self, if_true, Int.toNat_natCast]
theorem ixOk_le {a : AV} {n : Nat} (h : ixOk a n = true) : a.p ≤ n := by
  unfold ixOk at h
  cases h1 : nble a.tag 7
  · rw [h1] at h; cases h
  rw [h1, bi_true] at h
  cases h2 : nble a.p n
  · rw [h2] at h; cases h
  exact ble_true.1 h2
theorem run_bounds {isSlice hasHi : Bool} {len cap top : Nat} {lo hi : Option Value} {l h : AV} (hlo : LoOK φ lo l) (hhi : HiOK φ hi hasHi h) (htop : top ≤ cap) (h1 : ixOk (bi hasHi h (mk1 3 len)) top = true) (h2 : ixOk l (bi hasHi h (mk1 3 len)).p = true) :
    (Instr.sliceBounds isSlice len cap lo hi none).run P w = .ok (l.p, (bi hasHi h (mk1 3 len)).p, cap) w := by
  rcases hhi with ⟨rfl, rfl⟩ | ⟨v, rfl, rfl, hv⟩
  · rcases hlo with ⟨rfl, hp⟩ | ⟨u, rfl, hu⟩
    · simp only [Instr.sliceBounds, Sem.run_bind, Sem.run_pure', Result.andThen_ok, hp]; rfl
    · have hb := run_bound (P := P) (w := w) (m := len) (code := .sliceB) hu h2 (Nat.le_refl _)
      simp only [Instr.sliceBounds, Sem.run_bind, Sem.run_pure', Result.andThen_ok, Option.isSome_none, Bool.false_eq_true, if_false, hb]; rfl
  · rw [bi_true] at h1 h2
    have hb := run_bound (P := P) (w := w) (code := if isSlice then .sliceAcap else .sliceAlen) hv h1 htop
    rcases hlo with ⟨rfl, hp⟩ | ⟨u, rfl, hu⟩
    · simp only [Instr.sliceBounds, Sem.run_bind, Sem.run_pure', Result.andThen_ok, hb, hp]; rfl
    · have hb' := run_bound (P := P) (w := w) (m := h.p) (code := .sliceB) hu h2 (Nat.le_refl _)
      simp only [Instr.sliceBounds, Sem.run_bind, Sem.run_pure', Result.andThen_ok, hb, Option.isSome_none, Bool.false_eq_true, if_false, hb']; rfl
theorem add_if {x o l sz m : Nat} (h : l = 0 ∨ l < m) : (if m = l then (⟨x, o, none⟩ : Addr) else (⟨x, o, none⟩ : Addr).add (l * sz)) = ⟨x, o + l * sz, none⟩ := by
  rcases h with rfl | h
  · rw [Addr.add_mid]; split <;> simp
  · rw [if_neg (by omega), Addr.add_mid]
theorem zero_or {l m : Nat} (h : bi (nbeq l 0) true (nble (Nat.succ l) m) = true) : l = 0 ∨ l < m := by
  cases h1 : nbeq l 0
  · rw [h1, bi_false] at h; exact .inr (ble_true.1 h)
  · exact .inl (beq_true.1 h1)
theorem vr_cut {x : AV} {b blk off len cap l : Nat} (hx : φ b = some blk) (hs1 : capS x.s ≤ cap) (hs2 : isEx x.s = true → cap = capS x.s) (hs3 : isEx x.s = false → off = 0 → cap - l = φ.k blk) (hl : len + l ≤ capS x.s) :
    VR φ (slV b off len (bi (isEx x.s) (exS (Nat.sub (capS x.s) l)) (lbS (Nat.sub (capS x.s) l)))) (.slice (some ⟨blk, off, none⟩) len (cap - l)) := by
  have e : Nat.sub (capS x.s) l = capS x.s - l := rfl
  cases h : isEx x.s
  · rw [bi_false, e]
    have hc := capS_lb (capS x.s - l)
    exact .sl b blk off len (cap - l) _ [] hx (by rw [hc.1]; omega) (by rw [hc.1]; omega) (fun h => by rw [hc.2] at h; cases h) (fun _ h0 => hs3 h h0)
  · rw [bi_true, e, hs2 h]
    exact vr_slEx hx (by omega) off
theorem sliceAt_sl {t e : TypeId} {x : Value} {lo hi mx : Option Value} (ht : (tyB P t).run = some (.slice e)) : (Instr.sliceAt t x lo hi mx).run P w = (Instr.slice t x lo hi mx).run P w := by
  simp only [Instr.sliceAt, Sem.run_bind, run_und ht, Result.andThen_ok]
theorem cut_out {t e : TypeId} {sz : Nat} {hasHi : Bool} {lo hi : Option Value} {x l h : AV} {vx : Value} (ht : (tyB P t).run = some (.slice e)) (hs : (szB P e).run = some sz) (hsz : sz ≠ 0) (hx : VR φ x vx) (hlo : LoOK φ lo l) (hhi : HiOK φ hi hasHi h) (hr : HR P w0 H φ w)
    (hok : AllOk ((cutC sz hasHi).run x l h H c)) : Out P w0 (fun v w' => (Instr.sliceAt t vx lo hi none).run P w = .ok v w') H φ ((cutC sz hasHi).run x l h H c) c := by
  refine Out.bi2 hok (fun g0 hok => Out.bi hok fun g1 hok => Out.bi hok fun g2 hok => Out.bi hok fun g3 _ => ?_) fun _ hok => Out.bi hok fun g0 hok => Out.bi hok fun g1 hok => Out.bi hok fun g2 _ => ?_
  · obtain ⟨blk, cap, rfl, hb, hr1, hr2, hr3, hr4⟩ := hx.of_sl (beq_true.1 g0)
    have hbd := run_bounds (P := P) (w := w) (isSlice := true) hlo hhi hr2 g1 g2
    have i1 := ixOk_le g1; have i2 := ixOk_le g2
    generalize hh : (bi hasHi h (mk1 3 x.r)).p = hp at *
    have hz := zero_or g3
    have hval : VR φ (cutV sz x l.p hp (bi (isEx x.s) (exS (Nat.sub (capS x.s) l.p)) (lbS (Nat.sub (capS x.s) l.p)))) (.slice (some ⟨blk, x.q + l.p * sz, none⟩) (hp - l.p) (cap - l.p)) :=
      vr_cut (b := x.p) (off := x.q + l.p * sz) (len := hp - l.p) hb hr2 hr3 (fun he h0 => by
        have hq : x.q = 0 := by omega
        have hl0 : l.p * sz = 0 := by omega
        have : l.p = 0 := (Nat.mul_eq_zero.1 hl0).resolve_right hsz
        rw [this, Nat.sub_zero]
        exact hr4 he hq) (by omega)
    refine Out.same hr hval ?_
    rw [sliceAt_sl ht]
    simp only [Instr.slice, Sem.run_bind, run_und ht, Result.andThen_ok, hbd, run_sizeOf hs, Sem.run_pure']
    have := add_if (x := blk) (o := x.q) (sz := sz) (show l.p = 0 ∨ l.p < cap by omega)
    congr 2
    by_cases hc : cap = l.p
    · rw [if_pos hc] at this ⊢; rw [this]
    · rw [if_neg hc] at this ⊢; simp only [Option.map_some, this]
  · have hn := hx.isNil g0
    simp only at hn; subst hn
    have hbd := run_bounds (P := P) (w := w) (isSlice := true) (len := 0) (cap := 0) (top := 0) hlo hhi (Nat.le_refl _) g2 (by
      have := ixOk_le g2
      have h0 : (bi hasHi h (mk1 3 0)).p = 0 := by omega
      rw [h0]; exact g1)
    have i1 := ixOk_le g1; have i2 := ixOk_le g2
    have h0 : (bi hasHi h (mk1 3 0)).p = 0 := by omega
    have l0 : l.p = 0 := by omega
    refine Out.same hr hx ?_
    rw [sliceAt_sl ht]
    simp only [Instr.slice, Sem.run_bind, run_und ht, Result.andThen_ok, hbd, run_sizeOf hs, Sem.run_pure', h0, l0]
    rfl
theorem cut3_out {t e : TypeId} {sz : Nat} {lo : Option Value} {x l h m : AV} {vx vh vm : Value} (ht : (tyB P t).run = some (.slice e)) (hs : (szB P e).run = some sz) (hx : VR φ x vx) (hlo : LoOK φ lo l) (hh : VR φ h vh) (hm : VR φ m vm) (hr : HR P w0 H φ w)
    (hok : AllOk ((cut3C sz).run [x, l, h, m] H c)) : Out P w0 (fun v w' => (Instr.sliceAt t vx lo (some vh) (some vm)).run P w = .ok v w') H φ ((cut3C sz).run [x, l, h, m] H c) c := by
  refine Out.bi hok fun g0 hok => Out.bi hok fun g1 hok => Out.bi hok fun g2 hok => Out.bi hok fun g3 hok => Out.bi hok fun g4 _ => ?_
  change nbeq x.tag 11 = true at g0
  change ixOk m (capS x.s) = true at g1
  change ixOk h m.p = true at g2
  change ixOk l h.p = true at g3
  obtain ⟨blk, cap, rfl, hb, hr1, hr2, hr3⟩ := hx.of_sl (beq_true.1 g0)
  have i1 := ixOk_le g1; have i2 := ixOk_le g2; have i3 := ixOk_le g3
  have hz := zero_or g4
  change l.p = 0 ∨ l.p < m.p at hz
  have b1 := run_bound (P := P) (w := w) (code := .slice3Acap) hm g1 hr2
  have b2 := run_bound (P := P) (w := w) (code := .slice3B) hh g2 (Nat.le_refl _)
  have hbd : (Instr.sliceBounds true x.r cap lo (some vh) (some vm)).run P w = .ok (l.p, h.p, m.p) w := by
    rcases hlo with ⟨rfl, hp⟩ | ⟨u, rfl, hu⟩
    · simp only [Instr.sliceBounds, Sem.run_bind, Sem.run_pure', Result.andThen_ok, b1, b2, if_true, hp]
    · have hb' := run_bound (P := P) (w := w) (m := h.p) (code := .slice3C) hu g3 (Nat.le_refl _)
      simp only [Instr.sliceBounds, Sem.run_bind, Sem.run_pure', Result.andThen_ok, b1, b2, if_true, Option.isSome_some, hb']
  have e : Nat.sub m.p l.p = m.p - l.p := rfl
  have e' : Nat.sub h.p l.p = h.p - l.p := rfl
  have hval : VR φ (cutV sz x l.p h.p (exS (Nat.sub m.p l.p))) (.slice (some ⟨blk, x.q + l.p * sz, none⟩) (h.p - l.p) (m.p - l.p)) := by
    unfold cutV; rw [e, e']
    exact vr_slEx hb (by omega) _
  refine Out.same hr hval ?_
  rw [sliceAt_sl ht]
  simp only [Instr.slice, Sem.run_bind, run_und ht, Result.andThen_ok, hbd, run_sizeOf hs, Sem.run_pure']
  have := add_if (x := blk) (o := x.q) (sz := sz) hz
  congr 2
  by_cases hc : m.p = l.p
  · rw [if_pos hc] at this ⊢; rw [this]
  · rw [if_neg hc] at this ⊢; simp only [Option.map_some, this]
theorem cutArr_out {t e : TypeId} {n sz : Nat} {hasHi : Bool} {lo hi : Option Value} {x l h : AV} {vx : Value} (ht : (tyB P t).run = some (.array n e)) (hs : (szB P e).run = some sz) (hx : VR φ x vx) (hlo : LoOK φ lo l) (hhi : HiOK φ hi hasHi h) (hr : HR P w0 H φ w)
    (hok : AllOk ((cutArrC n sz hasHi).run x l h H c)) : Out P w0 (fun v w' => (Instr.sliceAt t vx lo hi none).run P w = .ok v w') H φ ((cutArrC n sz hasHi).run x l h H c) c := by
  refine Out.bi hok fun g0 hok => Out.bi hok fun g1 hok => Out.bi hok fun g2 hok => Out.bi hok fun g3 _ => ?_
  obtain ⟨blk, rfl, hb⟩ := hx.of_ptr (beq_true.1 g0)
  have hbd := run_bounds (P := P) (w := w) (isSlice := false) hlo hhi (Nat.le_refl n) g1 g2
  have i1 := ixOk_le g1; have i2 := ixOk_le g2
  generalize hh : (bi hasHi h (mk1 3 n)).p = hp at *
  have hz := zero_or g3
  have e : Nat.sub n l.p = n - l.p := rfl
  have e' : Nat.sub hp l.p = hp - l.p := rfl
  have hval : VR φ (cutV sz x l.p hp (exS (Nat.sub n l.p))) (.slice (some ⟨blk, x.q + l.p * sz, none⟩) (hp - l.p) (n - l.p)) := by
    unfold cutV; rw [e, e']
    exact vr_slEx hb (by omega) _
  refine Out.same hr hval ?_
  simp only [Instr.sliceAt, Sem.run_bind, run_und ht, Result.andThen_ok, Instr.sureAddr, hbd, run_sizeOf hs, Sem.run_pure', add_if hz]
theorem bytes_cut (bs : List UInt8) (l h : Nat) (h1 : l ≤ h) (h2 : h ≤ bs.length) : bytesN bs / 256 ^ (bs.length - h) % 256 ^ (h - l) = bytesN ((bs.take h).drop l) := by
  have e1 : bs = bs.take h ++ bs.drop h := (List.take_append_drop h bs).symm
  have hpos : ∀ n, 0 < 256 ^ n := fun n => Nat.pow_pos (by omega)
  have l1 : (bs.drop h).length = bs.length - h := List.length_drop
  have l2 : (bs.take h).length = h := by rw [List.length_take]; omega
  have d1 : bytesN bs / 256 ^ (bs.length - h) = bytesN (bs.take h) := by
    have := congrArg bytesN e1
    rw [bytesN_append, l1] at this
    have hlt := bytesN_lt (bs.drop h)
    rw [l1] at hlt
    rw [this, Nat.mul_comm, Nat.mul_add_div (hpos _), Nat.div_eq_of_lt hlt, Nat.add_zero]
  rw [d1]
  have e2 : bs.take h = (bs.take h).take l ++ (bs.take h).drop l := (List.take_append_drop l _).symm
  have l3 : ((bs.take h).drop l).length = h - l := by rw [List.length_drop, l2]
  have := congrArg bytesN e2
  rw [bytesN_append, l3] at this
  have hlt := bytesN_lt ((bs.take h).drop l)
  rw [l3] at hlt
  rw [this, Nat.mul_comm, Nat.mul_add_mod, Nat.mod_eq_of_lt hlt]
theorem cutStr_out {t : TypeId} {hasHi : Bool} {lo hi : Option Value} {x l h : AV} {vx : Value} (ht : (tyB P t).run = some .string) (hx : VR φ x vx) (hlo : LoOK φ lo l) (hhi : HiOK φ hi hasHi h) (hr : HR P w0 H φ w)
    (hok : AllOk ((cutStrC hasHi).run x l h H c)) : Out P w0 (fun v w' => (Instr.sliceAt t vx lo hi none).run P w = .ok v w') H φ ((cutStrC hasHi).run x l h H c) c := by
  refine Out.bi hok fun g0 hok => Out.bi hok fun g1 hok => Out.bi hok fun g2 _ => ?_
  obtain ⟨bs, rfl, e1, e2⟩ := hx.of_str (beq_true.1 g0)
  have hbd := run_bounds (P := P) (w := w) (isSlice := false) (len := x.q) (cap := bs.length) hlo hhi (by omega) g1 g2
  have i1 := ixOk_le g1; have i2 := ixOk_le g2
  generalize hh : (bi hasHi h (mk1 3 x.q)).p = hp at *
  have hcut := bytes_cut bs l.p hp i2 (by omega)
  have hval : VR φ (cutStr x l.p hp) (.string ⟨((bs.take hp).drop l.p).toArray⟩) := by
    have := vr_str (φ := φ) ((bs.take hp).drop l.p)
    rw [← hcut, ← e1, ← e2, List.length_drop, List.length_take, Nat.min_eq_left (by omega)] at this
    exact this
  refine Out.same hr hval ?_
  have hsz : (⟨bs.toArray⟩ : ByteArray).size = bs.length := by simp [ByteArray.size]
  have hex : (⟨bs.toArray⟩ : ByteArray).extract l.p hp = ⟨((bs.take hp).drop l.p).toArray⟩ := by
    apply ByteArray.ext
    simp [ByteArray.data_extract, List.extract_eq_take_drop, List.drop_take]
  have hat : (Instr.sliceAt t (.string ⟨bs.toArray⟩) lo hi none).run P w = (Instr.slice t (.string ⟨bs.toArray⟩) lo hi none).run P w := by
    simp only [Instr.sliceAt, Sem.run_bind, run_und ht, Result.andThen_ok]
  rw [e2] at hbd
  rw [hat]
  simp only [Instr.slice, Sem.run_bind, run_und ht, Result.andThen_ok, hsz, hbd, Option.isSome_none, Bool.false_eq_true, if_false, Sem.run_pure', hex]
end Go.Eng
