
/- A part of the proof that the evaluator in GnC, and the driver in GnZ, answer as the model does; no conditions. -/
import Derived.Test.YtfmoohdaimlggaaGreatDoorGnS8
namespace Go.Eng
open Go.RowKit
variable {P : Program} {w0 : World} {H : Hp} {φ : Ph} {c : Kont} {w : World}

/-! ### conversions -/
theorem cnv_val {j k p : Nat} (hj : j < 8) (hk : k < 8) (hp : p < kMod j) : (kOf k).wrap (valI j p) = valI k (cnvN j k p) ∧ cnvN j k p < kMod k := by
  have e1 : ∀ x y, Nat.mod x y = x % y := fun _ _ => rfl
  have e2 : ∀ x y, Nat.sub x y = x - y := fun _ _ => rfl
  have e3 : ∀ x y, Nat.mul x y = x * y := fun _ _ => rfl
  have e4 : ∀ x y, Nat.add x y = x + y := fun _ _ => rfl
  unfold cnvN
  rw [gt_eq]
  cases h : isNeg j p
  · rw [bi_false, e1, valI_nonneg h]
    exact ⟨valI_nat hk _ (by simp), Nat.mod_lt _ kMod_pos⟩
  · rw [bi_true, e1, e2, e3, e4, valI_ge (isNeg_true.1 h)]
    refine ⟨valI_nat hk _ ?_, Nat.mod_lt _ kMod_pos⟩
    have hle : kMod j ≤ kMod k * kMod j := Nat.le_mul_of_pos_left _ kMod_pos
    rw [Int.natCast_emod]
    have : ((p + (kMod k * kMod j - kMod j) : Nat) : Int) = ((p : Int) - kMod j) + (kMod k : Int) * (kMod j : Int) := by
      rw [← Int.natCast_mul]; omega
    rw [this, Int.add_mul_emod_self_left]
theorem und_u8 {e : TypeId} (h : isU8 P e = true) : (tyB P e).run = some (.int .u8) := by
  unfold isU8 at h
  split at h
  · assumption
  · cases h
theorem strOf_from {l : List AV} {vs : List Value} (hl : VRs φ l vs) {n m : Nat}
    (h : (List.rec (motive := fun _ => Nat → Option Nat) (fun n => some n) (fun v _ ih n => bi (nbeq v.tag 4) (ih (Nat.add (Nat.mul n 256) v.p)) none) l) n = some m) :
    ∃ bs : List UInt8, vs = (bs.map fun b => (b.toNat : Int)).map (Value.int .u8) ∧ m = n * 256 ^ bs.length + bytesN bs := by
  induction l generalizing vs n with
  | nil => cases hl; cases h; exact ⟨[], rfl, by simp [bytesN_nil]⟩
  | cons a l ih =>
    cases hl with
    | cons h1 h2 =>
      obtain ⟨ht, h⟩ := bi_none' h
      obtain ⟨rfl, hp, _⟩ := h1.of_int (c := 4) (by omega) (beq_true.1 ht)
      rw [kMod_4] at hp
      obtain ⟨bs, rfl, rfl⟩ := ih h2 h
      refine ⟨UInt8.ofNat a.p :: bs, ?_, ?_⟩
      · have hb : (UInt8.ofNat a.p).toNat = a.p := by simp [UInt8.toNat_ofNat']; omega
        simp only [List.map_cons, hb]
        have : valI 4 a.p = (a.p : Int) := valI_lt (by rw [kHalf_4]; exact hp)
        rw [this]; rfl
      · rw [bytesN_cons, List.length_cons, Nat.pow_succ]
        have hb : (UInt8.ofNat a.p).toNat = a.p := by simp [UInt8.toNat_ofNat']; omega
        rw [hb]
        show (n * 256 + a.p) * _ + _ = _
        rw [Nat.add_mul, Nat.mul_comm (256 ^ bs.length) 256, Nat.mul_assoc]
        omega
theorem push_all (bs : List UInt8) (s : ByteArray) : (bs.map fun b => (b.toNat : Int)).foldl (fun r n => r.push (UInt8.ofNat n.toNat)) s = ⟨s.data ++ bs.toArray⟩ := by
  induction bs generalizing s with
  | nil => simp
  | cons b bs ih =>
    simp only [List.map_cons, List.foldl_cons]
    rw [ih]
    have : UInt8.ofNat ((b.toNat : Int)).toNat = b := by simp
    rw [this]
    cases s; simp [ByteArray.push]
theorem conv_out {s t : TypeId} {a : AV} {va : Value} (ha : VR φ a va) (hr : HR P w0 H φ w) (hok : AllOk ((convC P s t).run a H c)) :
    Out P w0 (fun v w' => (convert s t va).run P w = .ok v w') H φ ((convC P s t).run a H c) c := by
  unfold convC at hok ⊢
  split at hok
  · rename_i j k h1 h2
    refine Out.bi hok fun h3 _ => ?_
    obtain ⟨rfl, l1, _⟩ := ha.of_int (kCode_lt j) (beq_true.1 h3)
    obtain ⟨g1, g2⟩ := cnv_val (kCode_lt j) (kCode_lt k) l1
    refine Out.same hr (vr_int (kCode_lt k) g2) ?_
    rw [← g1]
    simp only [convert, Sem.run_bind, run_und h1, run_und h2, Result.andThen_ok, kOf_kCode]; rfl
  · rename_i h1 h2
    refine Out.bi hok fun h3 _ => ?_
    obtain ⟨p, rfl, _, _⟩ := ha.of_str (beq_true.1 h3)
    refine Out.same hr ha ?_
    simp only [convert, Sem.run_bind, run_und h1, run_und h2, Result.andThen_ok]; rfl
  · rename_i e h1 h2
    cases hu : isU8 P e
    · rw [hu] at hok; exact (failR_bad hok).elim
    rw [hu, bi_true] at hok
    rw [bi_true]
    have he := und_u8 hu
    refine Out.bi2 hok (fun h3 _ => ?_) fun _ hok => Out.bi hok fun h3 hok => Out.bi hok fun hk hok => Out.om hok fun l hl hok => Out.om hok fun n hn _ => ?_
    · have : va = .slice none 0 0 := ha.isNil h3
      subst this
      refine Out.same (val := .string ⟨[].toArray⟩) hr (vr_str []) ?_
      simp only [convert, Sem.run_bind, run_und h1, run_und h2, run_und he, Result.andThen_ok, Conv.bytesToString]; rfl
    · obtain ⟨x, cap, rfl, hx, _⟩ := ha.of_sl (beq_true.1 h3)
      obtain ⟨_, _, o, ho, hB⟩ := hr.blk _ _ hx
      obtain ⟨vs, rest, t', rfl, hvs, _, _⟩ := hB.cells (beq_true.1 hk)
      rw [dropL_eq] at hl
      obtain ⟨hlen, rfl⟩ := takeL_some hl
      have hll := hvs.length
      obtain ⟨bs, hbs, hn'⟩ := strOf_from ((hvs.drop a.q).take a.r) (show _ = some n from hn)
      have hblen : bs.length = a.r := by
        have := congrArg List.length hbs
        simp only [List.length_map, List.length_take, List.length_drop] at this
        rw [List.length_drop] at hlen
        omega
      have e : ((vs ++ rest).drop a.q).take a.r = (vs.drop a.q).take a.r := by
        rw [List.drop_append, List.take_append]
        rw [List.length_drop] at hlen
        have : a.r - (vs.drop a.q).length = 0 := by rw [List.length_drop]; omega
        rw [this]; simp
      have hv : VR φ ⟨9, n, a.r, 0, 0, []⟩ (.string ⟨bs.toArray⟩) := by
        have := vr_str (φ := φ) bs
        rw [hblen] at this
        rw [hn', Nat.zero_mul, Nat.zero_add]; exact this
      refine Out.same hr hv ?_
      have hld := run_loadCells_in (P := P) ho (off := a.q) (n := a.r) (by rw [List.length_drop] at hlen; rw [List.length_append]; omega)
      rw [e, hbs] at hld
      simp only [convert, Sem.run_bind, run_und h1, run_und h2, run_und he, Result.andThen_ok]
      rw [run_bytesToString w _ a.r cap _ hld, push_all]
      simp
  · exact (failR_bad hok).elim

/-! ### parts of values and places of parts -/
theorem partK_out {t : TypeId} {d : TypeDesc} {sz off n : Nat} {cs : List AV} {vs : List Value} {S : Sem Value} (ht : (tyB P t).run = some d) (hs : (szB P t).run = some sz) (hcs : VRs φ cs vs) (h1 : ∀ c ∈ cs, okCell c = true) (hr : HR P w0 H φ w)
    (hS : ∀ v, (part t vs.toArray off).run P w = .ok v w → S.run P w = .ok v w) (hok : AllOk (partK (isAggT P t) off sz cs H c n)) :
    Out P w0 (fun v w' => S.run P w = .ok v w') H φ (partK (isAggT P t) off sz cs H c n) c := by
  unfold partK at hok ⊢
  refine Out.bi2 hok (fun hg hok => Out.om hok fun l hl _ => ?_) fun hg hok => Out.known hok fun hne => ?_
  · rw [dropL_eq] at hl
    obtain ⟨_, rfl⟩ := takeL_some hl
    exact Out.same hr (.agg _ _ _ _ _ _ ((hcs.drop off).take sz) fun c hc => h1 c (List.mem_of_mem_drop (List.mem_of_mem_take hc))) (hS _ (run_partA ht hs hg))
  · rw [nthL_eq] at hne ⊢
    cases ha : cs[off]? with
    | none => rw [ha] at hne; exact absurd rfl hne
    | some e =>
      obtain ⟨v, hv, hve⟩ := hcs.get ha
      exact Out.same hr hve (hS _ (run_part1 ht hg hv))
theorem field_out {s : TypeId} {fs : Array Field} {f : Nat} {fd : Field} {d : TypeDesc} {sz : Nat} {a : AV} {va : Value} (hs : (tyB P s).run = some (.struct fs)) (hf : fs[f]? = some fd) (ht : (tyB P fd.type).run = some d) (hz : (szB P fd.type).run = some sz)
    (ha : VR φ a va) (hr : HR P w0 H φ w) (hok : AllOk ((fieldC (isAggT P fd.type) fd.offset sz).run a H c)) :
    Out P w0 (fun v w' => (Instr.field s va f).run P w = .ok v w') H φ ((fieldC (isAggT P fd.type) fd.offset sz).run a H c) c := by
  refine Out.bi hok fun h1 hok => ?_
  obtain ⟨l, rfl, hl, hc⟩ := ha.of_agg (beq_true.1 h1)
  refine partK_out ht hz hl hc hr (fun v hv => ?_) hok
  simp only [Instr.field, Sem.run_bind, run_und hs, Result.andThen_ok, hf, asAgg, Sem.run_pure', hv]
theorem fieldAddr_out {s : TypeId} {fs : Array Field} {f : Nat} {fd : Field} {sz : Nat} {a : AV} {va : Value} (hs : (tyB P s).run = some (.struct fs)) (hf : fs[f]? = some fd) (hz : (szB P fd.type).run = some sz) (hz0 : sz ≠ 0)
    (ha : VR φ a va) (hr : HR P w0 H φ w) (hok : AllOk ((fieldAddrC fd.offset).run a H c)) :
    Out P w0 (fun v w' => (Instr.fieldAt s va f).run P w = .ok v w') H φ ((fieldAddrC fd.offset).run a H c) c := by
  refine Out.bi hok fun h1 _ => ?_
  obtain ⟨x, rfl, hx⟩ := ha.of_ptr (beq_true.1 h1)
  refine Out.same (val := .pointer (some ⟨x, a.q + fd.offset, none⟩)) hr (.ptr _ _ _ _ _ _ hx) ?_
  simp only [Instr.fieldAt, Sem.run_bind, run_und hs, Result.andThen_ok, hf, Instr.sureAddr, Sem.run_pure', fieldPlace, run_sizeOf hz, if_neg hz0, Addr.add_mid]
theorem ixOk_val {a : AV} {va : Value} {n : Nat} (ha : VR φ a va) (h : ixOk a n = true) : ∃ k, va = .int k (a.p : Int) ∧ a.p ≤ n := by
  unfold ixOk at h
  cases h1 : nble a.tag 7
  · rw [h1] at h; cases h
  rw [h1, bi_true] at h
  cases h2 : nble a.p n
  · rw [h2] at h; cases h
  rw [h2, bi_true, nb_eq] at h
  have hneg : isNeg a.tag a.p = false := by simpa using h
  obtain ⟨rfl, _, _⟩ := ha.of_int (c := a.tag) (by have := ble_true.1 h1; omega) rfl
  exact ⟨_, by rw [valI_nonneg hneg], ble_true.1 h2⟩
theorem ixSl_out {t e : TypeId} {sz : Nat} {a b : AV} {va vb : Value} (ht : (tyB P t).run = some (.slice e)) (hz : (szB P e).run = some sz) (ha : VR φ a va) (hb : VR φ b vb) (hr : HR P w0 H φ w) (hok : AllOk ((ixSlC sz).run a b H c)) :
    Out P w0 (fun v w' => (Instr.indexAt t va vb).run P w = .ok v w') H φ ((ixSlC sz).run a b H c) c := by
  refine Out.bi hok fun h1 hok => Out.bi hok fun h2 hok => Out.bi2 hok (fun _ hok => (failR_bad hok).elim) fun h3 _ => ?_
  obtain ⟨x, cap, rfl, hx, _⟩ := ha.of_sl (beq_true.1 h1)
  obtain ⟨k, rfl, hi⟩ := ixOk_val hb h2
  have h3' := beq_false.1 h3
  have e5 : ∀ x, Nat.pred x = x - 1 := fun _ => rfl
  rw [e5] at hi
  refine Out.same (val := .pointer (some ⟨x, a.q + b.p * sz, none⟩)) hr (.ptr _ _ _ _ _ _ hx) ?_
  have hlt : (0:Int) ≤ (b.p : Int) ∧ (b.p : Int) < (a.r : Int) := by omega
  simp only [Instr.indexAt, Sem.run_bind, asIntOf, Sem.run_pure', run_und ht, Result.andThen_ok, hlt, and_self, if_true, run_sizeOf hz, Addr.add_mid, Int.toNat_natCast]
theorem ixArr_out {t e : TypeId} {n sz : Nat} {a b : AV} {va vb : Value} (ht : (tyB P t).run = some (.array n e)) (hz : (szB P e).run = some sz) (ha : VR φ a va) (hb : VR φ b vb) (hr : HR P w0 H φ w) (hok : AllOk ((ixArrC n sz).run a b H c)) :
    Out P w0 (fun v w' => (Instr.indexAt t va vb).run P w = .ok v w') H φ ((ixArrC n sz).run a b H c) c := by
  refine Out.bi hok fun h1 hok => Out.bi hok fun h2 hok => Out.bi2 hok (fun _ hok => (failR_bad hok).elim) fun h3 _ => ?_
  obtain ⟨x, rfl, hx⟩ := ha.of_ptr (beq_true.1 h1)
  obtain ⟨k, rfl, hi⟩ := ixOk_val hb h2
  have h3' := beq_false.1 h3
  have e5 : ∀ x, Nat.pred x = x - 1 := fun _ => rfl
  rw [e5] at hi
  refine Out.same (val := .pointer (some ⟨x, a.q + b.p * sz, none⟩)) hr (.ptr _ _ _ _ _ _ hx) ?_
  have hlt : (0:Int) ≤ (b.p : Int) ∧ (b.p : Int) < (n : Int) := by omega
  simp only [Instr.indexAt, Sem.run_bind, asIntOf, Sem.run_pure', run_und ht, Result.andThen_ok, Instr.sureAddr, hlt, and_self, if_true, run_sizeOf hz, Addr.add_mid, Int.toNat_natCast]
theorem ixAgg_out {t e : TypeId} {d : TypeDesc} {n sz : Nat} {a b : AV} {va vb : Value} (ht : (tyB P t).run = some (.array n e)) (he : (tyB P e).run = some d) (hz : (szB P e).run = some sz) (ha : VR φ a va) (hb : VR φ b vb) (hr : HR P w0 H φ w) (hok : AllOk ((ixAggC (isAggT P e) n sz).run a b H c)) :
    Out P w0 (fun v w' => (Instr.index t va vb).run P w = .ok v w') H φ ((ixAggC (isAggT P e) n sz).run a b H c) c := by
  refine Out.bi hok fun h1 hok => Out.bi hok fun h2 hok => Out.bi2 hok (fun _ hok => (failR_bad hok).elim) fun h3 hok => ?_
  obtain ⟨l, rfl, hl, hc⟩ := ha.of_agg (beq_true.1 h1)
  obtain ⟨k, rfl, hi⟩ := ixOk_val hb h2
  have h3' := beq_false.1 h3
  have e5 : ∀ x, Nat.pred x = x - 1 := fun _ => rfl
  rw [e5] at hi
  refine partK_out he hz hl hc hr (fun v hv => ?_) hok
  have hlt : (0:Int) ≤ (b.p : Int) ∧ (b.p : Int) < (n : Int) := by omega
  have em : Nat.mul b.p sz = b.p * sz := rfl
  rw [em] at hv
  simp only [Instr.index, Sem.run_bind, asIntOf, Sem.run_pure', run_und ht, Result.andThen_ok, hlt, and_self, if_true, run_sizeOf hz, Int.toNat_natCast, hv]
theorem bytes_at (l : List UInt8) (i : Nat) (h : i < l.length) : bytesN l / 256 ^ (l.length - 1 - i) % 256 = (l[i]).toNat := by
  induction l generalizing i with
  | nil => simp at h
  | cons a l ih =>
    rw [bytesN_cons]
    cases i with
    | zero =>
      have hlt := bytesN_lt l
      have hpos : 0 < 256 ^ l.length := Nat.pow_pos (by omega)
      simp only [List.length_cons, Nat.add_sub_cancel, Nat.sub_zero, List.getElem_cons_zero]
      rw [Nat.mul_comm, Nat.mul_add_div hpos, Nat.div_eq_of_lt hlt, Nat.add_zero]
      have := a.toNat_lt
      omega
    | succ i =>
      have hi : i < l.length := by simpa using h
      have := ih i hi
      have e1 : (a :: l).length - 1 - (i + 1) = l.length - 1 - i := by simp; omega
      rw [e1, List.getElem_cons_succ, ← this]
      have e2 : 256 ^ l.length = 256 ^ (l.length - 1 - i) * (256 * 256 ^ i) := by
        rw [← Nat.pow_succ', ← Nat.pow_add]; congr 1; omega
      have hpos : 0 < 256 ^ (l.length - 1 - i) := Nat.pow_pos (by omega)
      rw [e2, Nat.mul_comm a.toNat, Nat.mul_assoc, Nat.mul_add_div hpos, Nat.mul_assoc, Nat.mul_add_mod]
theorem ixStr_out {t : TypeId} {a b : AV} {va vb : Value} (ht : (tyB P t).run = some .string) (ha : VR φ a va) (hb : VR φ b vb) (hr : HR P w0 H φ w) (hok : AllOk (ixStrC.run a b H c)) :
    Out P w0 (fun v w' => (Instr.index t va vb).run P w = .ok v w') H φ (ixStrC.run a b H c) c := by
  refine Out.bi hok fun h1 hok => Out.bi hok fun h2 hok => Out.bi2 hok (fun _ hok => (failR_bad hok).elim) fun h3 _ => ?_
  obtain ⟨l, rfl, e1, e2⟩ := ha.of_str (beq_true.1 h1)
  obtain ⟨k, rfl, hi⟩ := ixOk_val hb h2
  have h3' := beq_false.1 h3
  have e5 : ∀ x, Nat.pred x = x - 1 := fun _ => rfl
  rw [e5] at hi
  have hlt : b.p < l.length := by omega
  have hat : strAt a b.p = (l[b.p]).toNat := by
    rw [← bytes_at l b.p hlt, ← e1, ← e2]; unfold strAt; rw [gt2_eq, gt_eq]; rfl
  have hu := (l[b.p]).toNat_lt
  have hv : VR φ (mk1 4 (strAt a b.p)) (.int .u8 ((l[b.p]).toNat : Int)) := by
    have := vr_int (φ := φ) (k := 4) (p := strAt a b.p) (by omega) (by rw [kMod_4, hat]; omega)
    rw [valI_lt (by rw [kHalf_4, hat]; omega), hat] at this
    rw [hat]; exact this
  refine Out.same hr hv ?_
  have hsz : (⟨l.toArray⟩ : ByteArray).size = l.length := by simp [ByteArray.size]
  have hget : (⟨l.toArray⟩ : ByteArray)[b.p]? = some l[b.p] := by
    rw [getElem?_pos _ _ (by rw [hsz]; exact hlt)]
    rfl
  simp only [Instr.index, Sem.run_bind, asIntOf, Sem.run_pure', run_und ht, Result.andThen_ok, Int.natCast_nonneg, if_true, Int.toNat_natCast, hget]
theorem extract_out {i : Nat} {a : AV} {va : Value} (ha : VR φ a va) (hr : HR P w0 H φ w) (hok : AllOk ((extractC i).run a H c)) :
    Out P w0 (fun v w' => (Instr.extract va i).run P w = .ok v w') H φ ((extractC i).run a H c) c := by
  refine Out.bi hok fun h1 hok => Out.bi hok fun h2 _ => ?_
  obtain ⟨l, rfl, hl⟩ := ha.of_tup (beq_true.1 h1)
  have h2' := ble_true.1 h2
  rw [lenL_eq] at h2'
  have hi : a.cs[i]? = some a.cs[i] := List.getElem?_eq_getElem (by omega)
  obtain ⟨v, hv, hve⟩ := hl.get hi
  rw [nthL_eq, hi]
  refine Out.same hr hve ?_
  simp [Instr.extract, hv]
end Go.Eng
