
/- A part of the proof that the evaluator in GnC, and the driver in GnZ, answer as the model does; no conditions. -/
import Derived.Test.YtfmoohdaimlggaaGreatDoorGnS13
namespace Go.Eng
open Go.RowKit
variable {P : Program} {w0 : World} {H : Hp} {φ : Ph} {c : Kont} {w : World}

/-! ### append -/
theorem Out.trans {Y : Value → World → Prop} {H1 : Hp} {φ1 : Ph} {L : RL} (h : Out P w0 Y H1 φ1 L c) (e : EX H φ H1 φ1) : Out P w0 Y H φ L c := by
  obtain ⟨H', v, φ', val, w', h1, h2, h3, h4, h5⟩ := h
  exact ⟨H', v, φ', val, w', h1, h2, h3, h4, e.trans h5⟩
theorem HR.drew (h : HR P w0 H φ w) : HR P w0 H φ w.drew := ⟨h.blk, h.inj, h.n, h.lim, h.below.drew, h.gl, h.op, h.fz, h.tl, h.fo⟩
/-- nothing is known of the block any more -/
theorem HR.kill {b : Nat} (h : HR P w0 H φ w) (hb : b < H.n) : HR P w0 (hset H b noB) φ w := by
  have hn := h.n
  refine ⟨?_, ?_, h.n, h.lim, h.below, h.gl, h.op, ?_, ?_, h.fo⟩
  · intro b' x hb'
    obtain ⟨h1, h2, o, h3, h4⟩ := h.blk b' x hb'
    refine ⟨h1, h2, o, h3, ?_⟩
    rw [hget_hset (by omega) (by omega)]
    by_cases he : b = b'
    · rw [if_pos he]; exact ⟨(fun h => by cases h), (fun h => by cases h), (fun h => by cases h), (fun h => by exact no40 h)⟩
    · rw [if_neg he]; exact h4
  · intro b1 b2 x e1 e2 k1 k2
    have l1 := (h.blk _ _ e1).1; have l2 := (h.blk _ _ e2).1
    rw [hget_hset (by omega) (by omega)] at k1 k2
    by_cases he1 : b = b1
    · rw [if_pos he1] at k1; exact absurd rfl k1
    · by_cases he2 : b = b2
      · rw [if_pos he2] at k2; exact absurd rfl k2
      · rw [if_neg he1] at k1; rw [if_neg he2] at k2
        exact h.inj b1 b2 x e1 e2 k1 k2
  · intro x C hx
    refine ⟨(h.fz x C hx).1, fun b' hb' hl => ?_⟩
    have l1 := (h.blk _ _ hb').1
    rw [hget_hset (by omega) (by omega)]
    by_cases he : b = b'
    · rw [if_pos he]; exact .inl rfl
    · rw [if_neg he]; exact (h.fz x C hx).2 b' hb' hl
  · intro b' x hb' hk
    have l1 := (h.blk _ _ hb').1
    rw [hget_hset (by omega) (by omega)] at hk ⊢
    by_cases he : b = b'
    · rw [if_pos he] at hk; rcases hk with hk | hk <;> cases hk
    · rw [if_neg he] at hk ⊢; exact h.tl b' x hb' hk
/-- a block that may be written to is not among those that nobody writes to -/
theorem HR.live {b x : Nat} (h : HR P w0 H φ w) (hb : φ b = some x) (hl : H.lim ≤ b) (h0 : (hget H b).kind ≠ 0) (h7 : (hget H b).kind ≠ 7) : φ.fz x = none := by
  cases e : φ.fz x with
  | none => rfl
  | some C => rcases (h.fz x C e).2 b hb hl with k | k <;> contradiction
theorem EX.kill {b x : Nat} (h : HR P w0 H φ w) (hb : φ b = some x) (hl : H.lim ≤ b) (h5 : (hget H b).kind ≠ 5) : EX H φ (hset H b noB) φ := by
  have hn := h.n
  have hbn := (h.blk b x hb).1
  refine ⟨Le.refl φ, fun b x h h' => (by rw [h] at h'; cases h'), Nat.le_refl _, rfl, ?_, ?_, ?_, fun _ _ h => .inl h⟩
  · intro k h1 h2; rw [hget_hset (by omega) h2, if_neg (by omega)]
  · intro k h1 h2 _; rw [hget_hset (by omega) (by omega), if_neg (fun e => by rw [← e, hb] at h2; cases h2)]
  · intro k h1 h2 h3; rw [hget_hset (by omega) h2, if_neg (fun e => by rw [← e] at h3; exact h5 h3)]; exact h3

theorem grow_le (need : Nat) (hneed : need ≤ 100000) : ∀ (r c : Nat), c ≤ 150000 → Builtin.growBy need r c ≤ 150000
  | 0, c, h => by simpa [Builtin.growBy] using h
  | r + 1, c, h => by
    unfold Builtin.growBy
    split
    · exact h
    · exact grow_le need hneed r _ (by omega)
theorem nextcap_le {need old : Nat} (h1 : need ≤ 100000) (h2 : old < need) : Builtin.nextslicecap need old ≤ 200000 := by
  unfold Builtin.nextslicecap
  split
  · omega
  · split
    · omega
    · have := grow_le need h1 4 old (by omega); omega
structure AppT (P : Program) (tys : Array TypeId) (e sz bt : Nat) (z : Value) : Prop where
  t0 : ∃ t, tys[0]? = some t ∧ (tyB P t).run = some (.slice e)
  t1 : ∃ t d, tys[1]? = some t ∧ (tyB P t).run = some d ∧ ∀ k, d ≠ .int k
  hsz : (szB P e).run = some sz
  info : ∃ i, P.info? e = some i ∧ i.zero = some z ∧ i.bytes = bt
  zs : z.cells.size = sz
  bt1 : 1 ≤ bt
  bt6 : bt ≤ 1000000
section runs
variable {tys : Array TypeId} {e sz bt ty : Nat} {z : Value}
theorem notInt {d : TypeDesc} (h : ∀ k, d ≠ .int k) : (match d with | .int _ => true | _ => false) = false := by
  cases d <;> first | rfl | exact absurd rfl (h _)
theorem run_app_fits (h : AppT P tys e sz bt z) {blk q r cap k : Nat} {vy : Value} {nvs : List Value} {w' : World} (hlen : (Builtin.lenOf vy).run P w = .ok k w) (hfirst : (Builtin.firstCells sz k vy).run P w = .ok nvs.toArray w) (hfit : r + k ≤ cap)
    (hst : (storeCells ⟨blk, q + r * sz, none⟩ nvs).run P w = .ok () w') :
    (Builtin.append_ tys ty #[.slice (some ⟨blk, q, none⟩) r cap, vy]).run P w = .ok (.slice (some ⟨blk, q, none⟩) (r + k) cap) w' := by
  obtain ⟨t, h0, hu⟩ := h.t0
  obtain ⟨t', d', h0', hu', hd'⟩ := h.t1
  have hnot := notInt hd'
  have h1 : (#[Value.slice (some ⟨blk, q, none⟩) r cap, vy] : Array Value)[0]? = some (.slice (some ⟨blk, q, none⟩) r cap) := rfl
  have h2 : (#[Value.slice (some ⟨blk, q, none⟩) r cap, vy] : Array Value)[1]? = some vy := rfl
  unfold Builtin.append_
  simp only [h0, h0', h1, h2, Sem.run_bind, run_und hu, run_und hu', hnot, Result.andThen_ok, run_sizeOf h.hsz, hlen, Bool.false_eq_true, if_false, hfit, if_true, hfirst, Bool.not_false, Addr.add_mid, hst, Sem.run_pure', Bool.not_true]
theorem run_app_nil (h : AppT P tys e sz bt z) {vy : Value} {nvs : List Value} (hlen : (Builtin.lenOf vy).run P w = .ok 0 w) (hfirst : (Builtin.firstCells sz 0 vy).run P w = .ok nvs.toArray w) :
    (Builtin.append_ tys ty #[.slice none 0 0, vy]).run P w = .ok (.slice none 0 0) w := by
  obtain ⟨t, h0, hu⟩ := h.t0
  obtain ⟨t', d', h0', hu', hd'⟩ := h.t1
  have hnot := notInt hd'
  have h1 : (#[Value.slice none 0 0, vy] : Array Value)[0]? = some (.slice none 0 0) := rfl
  have h2 : (#[Value.slice none 0 0, vy] : Array Value)[1]? = some vy := rfl
  unfold Builtin.append_
  simp only [h0, h0', h1, h2, Sem.run_bind, run_und hu, run_und hu', hnot, Result.andThen_ok, run_sizeOf h.hsz, hlen, Bool.false_eq_true, if_false, Nat.add_zero, Nat.le_refl, if_true, hfirst, Bool.not_false, Sem.run_pure', Bool.not_true]
theorem run_app_grows (h : AppT P tys e sz bt z) {base : Option Addr} {r cap k : Nat} {vy : Value} {olds nvs : List Value} (hlen : (Builtin.lenOf vy).run P w = .ok k w) (hfirst : ∀ w' : World, w'.heap = w.heap → (Builtin.firstCells sz k vy).run P w' = .ok nvs.toArray w')
    (hold : ∀ w' : World, w'.heap = w.heap → (Builtin.firstCells sz r (.slice base r cap)).run P w' = .ok olds.toArray w') (hgrow : cap < r + k) (hsm : r + k ≤ 100000) :
    ∃ newCap, r + k ≤ newCap ∧ (Builtin.append_ tys ty #[.slice base r cap, vy]).run P w = .ok (.slice (some ⟨w.heap.size, 0, none⟩) (r + k) newCap) (w.drew.alloc (.cells (olds ++ nvs ++ (Builtin.zeroCells z.cells (newCap - (r + k))).toList).toArray e)) := by
  obtain ⟨t, h0, hu⟩ := h.t0
  obtain ⟨t', d', h0', hu', hd'⟩ := h.t1
  have hnot := notInt hd'
  obtain ⟨i, hi, hz, hb⟩ := h.info
  have h1 : (#[Value.slice base r cap, vy] : Array Value)[0]? = some (.slice base r cap) := rfl
  have h2 : (#[Value.slice base r cap, vy] : Array Value)[1]? = some vy := rfl
  have hle : ¬ (r + k ≤ cap) := by omega
  have hti : ∀ w, (typeInfo e).run P w = .ok i w := run_typeInfo hi
  have hmx : IntKind.i64.max = 9223372036854775807 := by decide
  have hbt1 := h.bt1
  have c1 : ¬ (((r + k : Nat) : Int) > IntKind.i64.max ∧ (False ∨ i.bytes = 0)) := by rw [hmx]; omega
  have c2 : ¬ (Builtin.nextslicecap (r + k) cap * i.bytes > 2 ^ 48) := by
    have := nextcap_le hsm hgrow
    have h6 := h.bt6
    have : Builtin.nextslicecap (r + k) cap * i.bytes ≤ 200000 * 1000000 := Nat.mul_le_mul this (by omega)
    have : (2:Nat) ^ 48 = 281474976710656 := by decide
    omega
  have hch : (choose (.appendCap (r + k) cap e)).run P w = .ok (Question.cut (.appendCap (r + k) cap e) (w.tape w.drawn (.appendCap (r + k) cap e))) w.drew := by
    rfl
  have hroom : ∀ n w, (askRoom n).run P w = .ok () w := by
    intro n w; unfold askRoom; split <;> rfl
  refine ⟨Question.cut (.appendCap (r + k) cap e) (w.tape w.drawn (.appendCap (r + k) cap e)), Nat.le_add_right _ _, ?_⟩
  generalize Question.cut (.appendCap (r + k) cap e) (w.tape w.drawn (.appendCap (r + k) cap e)) = newCap at *
  have hdh : w.drew.heap = w.heap := rfl
  unfold Builtin.append_
  simp only [h0, h0', h1, h2, Sem.run_bind, run_und hu, run_und hu', hnot, Result.andThen_ok, run_sizeOf h.hsz, hlen, Bool.false_eq_true, if_false, hle, hti, c1, c2, hch, hroom, hold _ hdh, hfirst _ hdh, Bool.not_false, if_true, run_zero hi hz, newRow, run_newObj, Sem.run_pure']
  simp
  congr 2
  apply Array.ext'
  simp
end runs

/-! the new cells -/
theorem strL_ok (l : List UInt8) : VRs φ (strL (bytesN l) l.length) (l.map fun b => Value.int .u8 (b.toNat : Int)) ∧ ∀ c ∈ strL (bytesN l) l.length, okCell c = true := by
  have key : ∀ (n : Nat) (pre l : List UInt8), l.length = n → VRs φ (strL (bytesN (pre ++ l)) n) (l.map fun b => Value.int .u8 (b.toNat : Int)) ∧ ∀ c ∈ strL (bytesN (pre ++ l)) n, okCell c = true := by
    intro n
    induction n with
    | zero => intro pre l hl; cases l with
      | nil => exact ⟨.nil, fun c hc => by cases hc⟩
      | cons a l => simp at hl
    | succ n ih => intro pre l hl; cases l with
      | nil => simp at hl
      | cons a l =>
        have hl' : l.length = n := by simpa using hl
        have e : pre ++ a :: l = (pre ++ [a]) ++ l := by simp
        obtain ⟨i1, i2⟩ := ih (pre ++ [a]) l hl'
        rw [← e] at i1 i2
        have hat := bytes_at (pre ++ a :: l) pre.length (by simp)
        have hidx : (pre ++ a :: l).length - 1 - pre.length = n := by simp; omega
        rw [hidx] at hat
        have hga : (pre ++ a :: l)[pre.length]'(by simp) = a := by simp
        rw [hga] at hat
        have hd : Nat.mod (Nat.div (bytesN (pre ++ a :: l)) (Nat.pow 256 n)) 256 = a.toNat := hat
        have hau := a.toNat_lt
        have hv : VR φ (mk1 4 (Nat.mod (Nat.div (bytesN (pre ++ a :: l)) (Nat.pow 256 n)) 256)) (.int .u8 (a.toNat : Int)) := by
          rw [hd]
          have := vr_int (φ := φ) (k := 4) (p := a.toNat) (by omega) (by rw [kMod_4]; omega)
          rwa [valI_lt (by rw [kHalf_4]; omega)] at this
        refine ⟨.cons hv i1, ?_⟩
        intro c hc
        have hc : c ∈ mk1 4 (Nat.mod (Nat.div (bytesN (pre ++ a :: l)) (Nat.pow 256 n)) 256) :: strL (bytesN (pre ++ a :: l)) n := hc
        rcases List.mem_cons.1 hc with rfl | hc
        · rfl
        · exact i2 c hc
  simpa using key l.length [] l rfl
theorem news_ok {sz k : Nat} {u8 : Bool} {new : List AV} {y : AV} {vy : Value} (hy : VR φ y vy) (hr : HR P w0 H φ w) (hu : u8 = true → sz = 1) (h : newsOf sz u8 H y = some (k, new)) :
    ∃ nvs : List Value, VRs φ new nvs ∧ (∀ c ∈ new, okCell c = true) ∧ (Builtin.lenOf vy).run P w = .ok k w ∧ (∀ w' : World, w'.heap = w.heap → (Builtin.firstCells sz k vy).run P w' = .ok nvs.toArray w') ∧ nvs.length = k * sz ∧ (∀ a, vy = .slice none 0 a → k = 0) := by
  unfold newsOf at h
  cases h11 : nbeq y.tag 11
  · rw [h11, bi_false] at h
    cases h17 : nbeq y.tag 17
    · rw [h17, bi_false] at h
      obtain ⟨h9, h⟩ := bi_none' h
      obtain ⟨hu8, h⟩ := bi_none' h
      cases h
      obtain ⟨l, rfl, e1, e2⟩ := hy.of_str (beq_true.1 h9)
      obtain ⟨s1, s2⟩ := strL_ok (φ := φ) l
      have hs1 := hu hu8
      subst hs1
      rw [e1, e2]
      have hsz : (⟨l.toArray⟩ : ByteArray).size = l.length := by simp [ByteArray.size]
      refine ⟨_, s1, s2, ?_, ?_, by simp, fun a h => by cases h⟩
      · simp only [Builtin.lenOf, hsz]; rfl
      · intro w' _
        simp only [Builtin.firstCells, Sem.run_pure']
        congr 1
        apply Array.ext'
        simp [ByteArray.data_extract, List.extract_eq_take_drop]
    · rw [h17, bi_true] at h
      obtain ⟨hp, h⟩ := bi_none' h
      cases h
      have hn : isNil y 1 = true := by unfold isNil; rw [h17]; exact hp
      have := hy.isNil hn; simp only at this; subst this
      exact ⟨[], .nil, (fun c hc => by cases hc), rfl, (fun _ _ => rfl), by simp, fun _ _ => rfl⟩
  · rw [h11, bi_true] at h
    obtain ⟨hk, h⟩ := bi_none' h
    obtain ⟨l, hl, h⟩ := om_none' h
    cases h
    obtain ⟨x, cap, rfl, hx, _⟩ := hy.of_sl (beq_true.1 h11)
    obtain ⟨_, _, o, ho, hB⟩ := hr.blk _ _ hx
    obtain ⟨vs, rest, t', rfl, hvs, h1, _⟩ := hB.cells (beq_true.1 hk)
    rw [dropL_eq] at hl
    obtain ⟨hlen, rfl⟩ := takeL_some hl
    have em : Nat.mul y.r sz = y.r * sz := rfl
    rw [em] at hlen ⊢
    have hll := hvs.length
    have e : ((vs ++ rest).drop y.q).take (y.r * sz) = (vs.drop y.q).take (y.r * sz) := by
      rw [List.drop_append, List.take_append]
      rw [List.length_drop] at hlen
      have : y.r * sz - (vs.drop y.q).length = 0 := by rw [List.length_drop]; omega
      rw [this]; simp
    refine ⟨_, (hvs.drop y.q).take _, fun c hc => h1 c (List.mem_of_mem_drop (List.mem_of_mem_take hc)), rfl, ?_, ?_, fun a h => by cases h⟩
    · intro w' hw'
      simp only [Builtin.firstCells]
      rw [run_loadCells_in (P := P) (w := w') (by rw [hw']; exact ho) (by rw [List.length_drop] at hlen; rw [List.length_append]; omega), e]
    · rw [List.length_take, List.length_drop]
      rw [List.length_drop] at hlen
      omega
theorem zero_len {z : Array Value} {sz n : Nat} (h : z.size = sz) : (Builtin.zeroCells z n).toList.length = n * sz := by
  simp [Builtin.zeroCells, h]
/-- the arm that makes a new block -/
theorem appNew_out {tys : Array TypeId} {e sz bt ty r cap k : Nat} {z : Value} {base : Option Addr} {vy : Value} {olds nvs : List Value} {cs : List AV} {n : Nat} (hA : AppT P tys e sz bt z) (hr : HR P w0 H φ w)
    (hlen : (Builtin.lenOf vy).run P w = .ok k w) (hfirst : ∀ w' : World, w'.heap = w.heap → (Builtin.firstCells sz k vy).run P w' = .ok nvs.toArray w')
    (hold : ∀ w' : World, w'.heap = w.heap → (Builtin.firstCells sz r (.slice base r cap)).run P w' = .ok olds.toArray w') (hgrow : cap < r + k) (hsm : r + k ≤ 100000) (hn : n = r + k)
    (hcs : VRs φ cs (olds ++ nvs)) (h1 : ∀ c ∈ cs, okCell c = true) (hl : (olds ++ nvs).length = (r + k) * sz) (hok : AllOk (appNew sz H cs n c)) :
    Out P w0 (fun v w' => (Builtin.append_ tys ty #[.slice base r cap, vy]).run P w = .ok v w') H φ (appNew sz H cs n c) c := by
  subst hn
  obtain ⟨newCap, hcap, hrun⟩ := run_app_grows (ty := ty) hA hlen hfirst hold hgrow hsm
  refine Out.newK (w := w.drew) (o := .cells (olds ++ nvs ++ (Builtin.zeroCells z.cells (newCap - (r + k))).toList).toArray e) (val := .slice (some ⟨w.heap.size, 0, none⟩) (r + k) newCap) newCap hr.drew ?_ ?_ hrun hok
  · intro φ' hle hk
    refine ⟨fun _ => ⟨olds ++ nvs, _, e, rfl, hcs.mono hle, h1, fun _ => ?_, fun h => by exact no20 h⟩, (fun h => by cases h), (fun h => by cases h), (fun h => by exact no41 h)⟩
    rw [List.length_append, hl, zero_len hA.zs]
    have : φ'.k w.drew.heap.size = newCap := hk
    show _ = φ'.k _ * sz
    rw [this, ← Nat.add_mul]; congr 1; omega
  · intro φ' hle hf hk
    have hc := capS_lb (r + k)
    exact .sl _ _ _ _ _ _ _ hf (by rw [hc.1]; exact Nat.le_refl _) (by rw [hc.1]; exact hcap) (fun h => by rw [hc.2] at h; cases h) (fun _ _ => hk.symm)
/-- cells of a slice, in any world of the same memory -/
theorem old_cells {x : AV} {blk r sz : Nat} {cap : Nat} {l rest : List Value} {t : TypeId} (ho : w.heap[blk]? = some (.cells (l ++ rest).toArray t)) (hle : r * sz ≤ l.length - x.q) :
    ∀ w' : World, w'.heap = w.heap → (Builtin.firstCells sz r (.slice (some ⟨blk, x.q, none⟩) r cap)).run P w' = .ok ((l.drop x.q).take (r * sz)).toArray w' := by
  intro w' hw'
  have e : ((l ++ rest).drop x.q).take (r * sz) = (l.drop x.q).take (r * sz) := by
    rw [List.drop_append, List.take_append]
    have : r * sz - (l.drop x.q).length = 0 := by rw [List.length_drop]; omega
    rw [this]; simp
  simp only [Builtin.firstCells]
  rw [run_loadCells_in (P := P) (w := w') (by rw [hw']; exact ho) (by rw [List.length_append]; omega), e]
theorem one_of {vs : List AV} {vals : List Value} (h : VRs φ vs vals) (h1 : ∀ c ∈ vs, okCell c = true) : ∀ v ∈ vals, v.oneCell' = true := by
  intro v hv
  obtain ⟨i, hi⟩ := List.mem_iff_getElem?.1 hv
  have hi' : i < vs.length := by rw [h.length]; exact (List.getElem?_eq_some_iff.1 hi).1
  obtain ⟨v', hv', hvr⟩ := h.get (List.getElem?_eq_getElem hi')
  rw [hi] at hv'; cases hv'
  exact (hvr.one (h1 _ (List.getElem_mem hi'))).1
/-- a store into a block of which the memory knows nothing any more -/
theorem HR.store {blk : Nat} {w' : World} (h : HR P w0 H φ w) (hdead : ∀ b, φ b = some blk → (hget H b).kind = 0) (hfz : φ.fz blk = none) (hbase : OwnB w0 φ blk) (hrest : ∀ k, k ≠ blk → w'.heap[k]? = w.heap[k]?) (hthere : ∃ o, w'.heap[blk]? = some o) (hsz : w'.heap.size = w.heap.size)
    (hos : w'.os = w.os) (htape : w'.tape = w.tape) (hout : w'.output = w.output) : HR P w0 H φ w' := by
  refine ⟨?_, h.inj, h.n, h.lim, h.below.step hos htape hout (by omega) (fun k _ hk => hrest k fun e => hk (e ▸ hbase)), h.gl, h.op, ?_, h.tl, h.fo⟩
  · intro b x hb
    obtain ⟨h1, h2, o, h3, h4⟩ := h.blk b x hb
    by_cases hx : x = blk
    · subst hx
      obtain ⟨o', ho'⟩ := hthere
      have hz := hdead b hb
      exact ⟨h1, h2, o', ho', (fun h => by omega), (fun h => by omega), (fun h => by omega), (fun h => by omega)⟩
    · exact ⟨h1, h2, o, by rw [hrest x hx]; exact h3, h4⟩
  · intro x C hx
    have hne : x ≠ blk := fun e => by rw [e, hfz] at hx; cases hx
    rw [hrest x hne]
    exact h.fz x C hx
/-- a new name for a block whose old names are dead -/
theorem Out.alias {Y : Value → World → Prop} {B : AB} {mk : Nat → AV} {blk : Nat} {o : Obj} {val : Value} (hr : HR P w0 H φ w) (hdead : ∀ b, φ b = some blk → (hget H b).kind = 0) (hfz : φ.fz blk = none ∨ B.kind = 7) (hbase : OwnB w0 φ blk) (ho : w.heap[blk]? = some o)
    (hB : BRel P φ blk B o) (hv : ∀ φ' : Ph, Le φ φ' → φ' H.n = some blk → φ'.k blk = φ.k blk → φ'.tl H.n = B.cs.length → VR φ' (mk H.n) val) (hy : Y val w) (hok : AllOk (newC H B mk c)) : Out P w0 Y H φ (newC H B mk c) c := by
  unfold newC at hok ⊢
  refine Out.bi hok fun hn _ => ?_
  have hn' := ble_true.1 hn
  have hlim := hr.lim
  have hfree : φ H.n = none := by
    cases h : φ H.n with
    | none => rfl
    | some x => exact absurd (hr.blk _ _ h).1 (by omega)
  let φ' : Ph := ⟨fun b => if b = H.n then some blk else φ b, φ.k, φ.op, φ.fz, fun b => if b = H.n then B.cs.length else φ.tl b⟩
  have hkeep : Le φ φ' := by
    refine ⟨?_, rfl, fun _ _ h => h, fun b x hb => if_neg fun e => by rw [e, hfree] at hb; cases hb⟩
    intro b x hb
    have : b ≠ H.n := fun e => by rw [e, hfree] at hb; cases hb
    exact ⟨by simp only [φ', if_neg this]; exact hb, rfl⟩
  have hφn : φ' H.n = some blk := by simp [φ']
  have hold : ∀ b x, φ' b = some x → b ≠ H.n → φ b = some x := by
    intro b x hb hne; simpa only [φ', if_neg hne] using hb
  have hs : (hnew H B).n = H.n + 1 := hnew_n _ _
  refine ⟨hnew H B, mk H.n, φ', val, w, fun _ h => h, hy, hv φ' hkeep hφn rfl (if_pos rfl), ?_, ?_⟩
  · refine ⟨?_, ?_, by omega, by show H.lim ≤ _; omega, hr.below.op hkeep.op, hr.gl.mono hkeep, hr.op, ?_, ?_, hr.fo⟩
    · intro b x hb
      by_cases hbn : b = H.n
      · subst hbn
        rw [hφn] at hb; cases hb
        exact ⟨by omega, fun _ => hbase, o, ho, by rw [hget_hnew (by omega) (by omega), if_pos rfl]; exact hB.mono hkeep rfl⟩
      · obtain ⟨h1, h2, o', h3, h4⟩ := hr.blk b x (hold b x hb hbn)
        exact ⟨by omega, h2, o', h3, by rw [hget_hnew (by omega) (by omega), if_neg (by omega)]; exact h4.mono hkeep rfl⟩
    · intro b b' x hb hb' hk hk'
      by_cases hbn : b = H.n
      · by_cases hbn' : b' = H.n
        · rw [hbn, hbn']
        · rw [hbn, hφn] at hb; cases hb
          have e := hold b' _ hb' hbn'
          have l2 := (hr.blk _ _ e).1
          rw [hget_hnew (by omega) (by omega), if_neg (by omega)] at hk'
          exact absurd (hdead b' e) hk'
      · have e1 := hold b x hb hbn
        have l1 := (hr.blk _ _ e1).1
        by_cases hbn' : b' = H.n
        · rw [hbn', hφn] at hb'; cases hb'
          rw [hget_hnew (by omega) (by omega), if_neg (by omega)] at hk
          exact absurd (hdead b e1) hk
        · have e2 := hold b' x hb' hbn'
          have l2 := (hr.blk _ _ e2).1
          rw [hget_hnew (by omega) (by omega), if_neg (by omega)] at hk hk'
          exact hr.inj b b' x e1 e2 hk hk'
    · intro x C hx
      refine ⟨(hr.fz x C hx).1, fun b hb hl => ?_⟩
      by_cases hbn : b = H.n
      · subst hbn
        rw [hφn] at hb; cases hb
        rw [hget_hnew (by omega) (by omega), if_pos rfl]
        rcases hfz with e | e
        · rw [show φ.fz blk = some C from hx] at e; cases e
        · exact .inr e
      · have e1 := hold b x hb hbn
        have l1 := (hr.blk _ _ e1).1
        rw [hget_hnew (by omega) (by omega), if_neg (by omega)]
        exact (hr.fz x C hx).2 b e1 hl
    · intro b x hb hk
      by_cases hbn : b = H.n
      · subst hbn
        rw [hget_hnew (by omega) (by omega), if_pos rfl]
        exact (if_pos rfl).symm
      · have e1 := hold b x hb hbn
        have l1 := (hr.blk _ _ e1).1
        rw [hget_hnew (by omega) (by omega), if_neg (by omega)] at hk ⊢
        exact (hr.tl b x e1 hk).trans (if_neg hbn).symm
  · refine ⟨hkeep, ?_, by omega, rfl, ?_, ?_, ?_, fun _ _ h => .inl h⟩
    · intro b x hb hnone
      by_cases hbn : b = H.n
      · omega
      · rw [hold b x hb hbn] at hnone; cases hnone
    · intro b hb hb'
      rw [hget_hnew (by omega) hb', if_neg (by omega)]
    · intro b hb _ _
      rw [hget_hnew (by omega) (by omega), if_neg (by omega)]
    · intro b hb hb' hk
      rw [hget_hnew (by omega) hb', if_neg (by omega)]; exact hk
theorem appSl_out {tys : Array TypeId} {e sz bt ty k : Nat} {z : Value} {x : AV} {vx vy : Value} {nvs : List Value} {new : List AV} (hA : AppT P tys e sz bt z) (hx : VR φ x vx) (ht : x.tag = 11) (hr : HR P w0 H φ w)
    (hlen : (Builtin.lenOf vy).run P w = .ok k w) (hfirst : ∀ w' : World, w'.heap = w.heap → (Builtin.firstCells sz k vy).run P w' = .ok nvs.toArray w')
    (hnew : VRs φ new nvs) (h1 : ∀ c ∈ new, okCell c = true) (hnl : nvs.length = k * sz) (hsm : x.r + k ≤ 100000) (hok : AllOk (appSl sz x (x.r + k) new H c)) :
    Out P w0 (fun v w' => (Builtin.append_ tys ty #[vx, vy]).run P w = .ok v w') H φ (appSl sz x (x.r + k) new H c) c := by
  obtain ⟨blk, cap, rfl, hb, r1, r2, r3, r4⟩ := hx.of_sl ht
  obtain ⟨hbn, _, o, ho, hB⟩ := hr.blk _ _ hb
  refine Out.bi hok fun hk hok => ?_
  have hk' := beq_true.1 hk
  obtain ⟨l, rest, t', rfl, hl, g1, g2⟩ := hB.cells hk'
  have hll := hl.length
  have em : ∀ a b, Nat.mul a b = a * b := fun _ _ => rfl
  have ea : ∀ a b, Nat.add a b = a + b := fun _ _ => rfl
  refine Out.bi2 hok (fun hfit hok => Out.om hok fun cs hcs hok => ?_) fun hnofit hok => Out.om hok fun old hold hok => ?_
  · have hfit' := ble_true.1 hfit
    obtain ⟨hin, rfl⟩ := putC_some hcs
    rw [ea, em] at hin
    have hnn := hnew.length
    have hst := run_storeCells_at (P := P) blk (x.q + x.r * sz) t' nvs 0 (l ++ rest).toArray w ho (by rw [List.size_toArray, List.length_append]; omega) (one_of hnew h1)
    have hval : VR φ (slV x.p x.q (x.r + k) x.s) (.slice (some ⟨blk, x.q, none⟩) (x.r + k) cap) := .sl _ _ _ _ _ _ _ hb hfit' r2 r3 r4
    refine Out.set (x := blk) (o' := .cells (l.take (x.q + x.r * sz) ++ nvs ++ l.drop (x.q + x.r * sz + nvs.length) ++ rest).toArray t')
      (w' := w.setRow blk (((l ++ rest).toArray).toList.take (x.q + x.r * sz + 0) ++ nvs ++ ((l ++ rest).toArray).toList.drop (x.q + x.r * sz + 0 + nvs.length)).toArray) hr hb (by omega) ?_ hval ?_ ?_ ?_ (by simp [World.setRow]) rfl rfl rfl hok
    · refine ⟨fun _ => ⟨l.take (x.q + x.r * sz) ++ nvs ++ l.drop (x.q + x.r * sz + nvs.length), rest, t', rfl, ?_, ?_, ?_, g2.2⟩, (fun h => by cases h), (fun h => by cases h), (fun h => by exact no41 h)⟩
      · show VRs φ (_ ++ _ ++ _) _
        rw [hnn]
        exact ((hl.take _).append hnew).append (hl.drop _)
      · intro c hc
        have hc : c ∈ (hget H x.p).cs.take (x.q + x.r * sz) ++ new ++ (hget H x.p).cs.drop (x.q + x.r * sz + new.length) := hc
        rw [List.mem_append, List.mem_append] at hc
        rcases hc with (hc | hc) | hc
        · exact g1 c (List.mem_of_mem_take hc)
        · exact h1 c hc
        · exact g1 c (List.mem_of_mem_drop hc)
      · intro he
        have := g2.1 he
        rw [List.length_append] at this
        simp only [List.length_append, List.length_take, List.length_drop]
        show _ = φ.k blk * (hget H x.p).t
        omega
    · exact run_app_fits (ty := ty) hA hlen (hfirst w rfl) (by omega) hst
    · rw [setRow_heap w blk _ _ t' (0, 0) ho]
      congr 3
      simp only [Nat.add_zero]
      rw [List.take_append_of_le_length (by omega), List.drop_append_of_le_length (by omega)]
      simp only [List.append_assoc]
    · intro j hj
      simp [World.setRow, Array.getElem?_modify, Ne.symm hj]
  · have hnofit' := ble_false.1 hnofit
    rw [dropL_eq, em] at hold
    obtain ⟨ho1, rfl⟩ := takeL_some hold
    rw [List.length_drop] at ho1
    have holds := old_cells (P := P) (x := x) (r := x.r) (sz := sz) (cap := cap) ho (by omega)
    have hcs : VRs φ (appL (((hget H x.p).cs.drop x.q).take (x.r * sz)) new) ((l.drop x.q).take (x.r * sz) ++ nvs) := by
      rw [appL_eq]; exact ((hl.drop _).take _).append hnew
    have hc1 : ∀ c ∈ appL (((hget H x.p).cs.drop x.q).take (x.r * sz)) new, okCell c = true := by
      intro c hc
      rw [appL_eq, List.mem_append] at hc
      rcases hc with hc | hc
      · exact g1 c (List.mem_of_mem_drop (List.mem_of_mem_take hc))
      · exact h1 c hc
    have hll2 : ((l.drop x.q).take (x.r * sz) ++ nvs).length = (x.r + k) * sz := by
      rw [List.length_append, List.length_take, List.length_drop, hnl, Nat.add_mul]; omega
    refine Out.bi2 hok (fun hex hok => ?_) fun hlb hok => ?_
    · have := r3 hex
      exact appNew_out hA hr hlen hfirst holds (by omega) hsm rfl hcs hc1 hll2 hok
    · unfold appTip at hok ⊢
      refine Out.bi hok fun t1 hok => Out.bi hok fun t2 hok => Out.bi hok fun t3 hok => Out.bi hok fun t4 hok => ?_
      have t1' := beq_true.1 t1
      have t2' := beq_true.1 t2
      have t3' := beq_true.1 t3
      have t4' := beq_true.1 t4
      rw [em, lenL_eq] at t2'
      have hroom := g2.1 t3'
      rw [t4', ← r4 hlb t1'] at hroom
      unfold setC at hok ⊢
      refine Out.bi hok fun hlim hok => ?_
      have hlim' := ble_true.1 hlim
      have hn := hr.n
      have hr1 := hr.kill hbn
      have ex1 := EX.kill hr hb hlim' (by omega)
      refine Out.trans ?_ ex1
      by_cases hfit : x.r + k ≤ cap
      · have hin : (x.r + k) * sz ≤ (l ++ rest).length := by rw [hroom]; exact Nat.mul_le_mul_right _ hfit
        rw [Nat.add_mul] at hin
        have hst := run_storeCells_at (P := P) blk (x.q + x.r * sz) t' nvs 0 (l ++ rest).toArray w ho (by rw [List.size_toArray, hnl]; omega) (one_of hnew h1)
        have hrun := run_app_fits (ty := ty) hA hlen (hfirst w rfl) hfit hst
        have hw' : ((l ++ rest).toArray).toList.take (x.q + x.r * sz + 0) ++ nvs ++ ((l ++ rest).toArray).toList.drop (x.q + x.r * sz + 0 + nvs.length) = (l.drop x.q).take (x.r * sz) ++ nvs ++ rest.drop (k * sz) := by
          have hl1 : l.length = x.r * sz := by omega
          simp only [t1', Nat.zero_add, Nat.add_zero, List.drop_zero]
          rw [← hl1, List.take_left' rfl, List.take_length, hnl, List.drop_append, List.drop_eq_nil_of_le (by omega), List.nil_append]
          congr 2; omega
        rw [hw'] at hrun
        obtain ⟨s1, s2⟩ : (w.setRow blk ((l.drop x.q).take (x.r * sz) ++ nvs ++ rest.drop (k * sz)).toArray).heap[blk]? = some (.cells ((l.drop x.q).take (x.r * sz) ++ nvs ++ rest.drop (k * sz)).toArray t') ∧ ∀ j, j ≠ blk → (w.setRow blk ((l.drop x.q).take (x.r * sz) ++ nvs ++ rest.drop (k * sz)).toArray).heap[j]? = w.heap[j]? := by
          refine ⟨setRow_heap w blk _ _ t' (0, 0) ho, fun j hj => ?_⟩
          simp [World.setRow, Array.getElem?_modify, Ne.symm hj]
        have hdead : ∀ b, φ b = some blk → (hget (hset H x.p noB) b).kind = 0 := by
          intro b hb'
          have hbl := (hr.blk _ _ hb').1
          rw [hget_hset (by omega) (by omega)]
          by_cases he : x.p = b
          · rw [if_pos he]; rfl
          · rw [if_neg he]
            cases hz : decide ((hget H b).kind = 0) with
            | true => exact of_decide_eq_true hz
            | false => exact absurd (hr.inj _ _ _ hb hb' (by omega) (of_decide_eq_false hz)) he
        have hbase := (hr.blk _ _ hb).2.1 hlim'
        have hfz := hr.live hb hlim' (by omega) (by omega)
        have hr2 := hr1.store hdead hfz hbase s2 ⟨_, s1⟩ (by simp [World.setRow]) rfl rfl rfl
        refine Out.alias (val := .slice (some ⟨blk, x.q, none⟩) (x.r + k) cap) hr2 hdead (.inl hfz) hbase s1 ?_ ?_ hrun hok
        · refine ⟨fun _ => ⟨(l.drop x.q).take (x.r * sz) ++ nvs, rest.drop (k * sz), t', rfl, hcs, hc1, fun _ => ?_, fun h => by exact no20 h⟩, (fun h => by cases h), (fun h => by cases h), (fun h => by exact no41 h)⟩
          show _ = φ.k blk * sz
          rw [← r4 hlb t1', ← hroom, List.length_append, hll2, List.length_drop, List.length_append, Nat.add_mul]
          rw [List.length_append] at hin
          omega
        · intro φ' hle hf hkk _
          have hc := capS_lb (x.r + k)
          rw [t1']
          exact .sl _ _ _ _ _ _ _ hf (by rw [hc.1]; exact Nat.le_refl _) (by rw [hc.1]; exact hfit) (fun h => by rw [hc.2] at h; cases h) (fun _ _ => (r4 hlb t1').trans hkk.symm)
      · exact appNew_out hA hr1 hlen hfirst holds (by omega) hsm rfl hcs hc1 hll2 hok
theorem append_out {tys : Array TypeId} {e sz bt ty : Nat} {z : Value} {u8 : Bool} {x y : AV} {vx vy : Value} (hA : AppT P tys e sz bt z) (hu : u8 = true → sz = 1) (hx : VR φ x vx) (hy : VR φ y vy) (hr : HR P w0 H φ w) (hok : AllOk ((appendC sz u8).run x y H c)) :
    Out P w0 (fun v w' => (Builtin.append_ tys ty #[vx, vy]).run P w = .ok v w') H φ ((appendC sz u8).run x y H c) c := by
  refine Out.om hok fun nw hnw hok => ?_
  obtain ⟨k, new⟩ := nw
  obtain ⟨nvs, n1, n2, n3, n4, n5, n6⟩ := news_ok (P := P) hy hr hu hnw
  have ea : ∀ a b, Nat.add a b = a + b := fun _ _ => rfl
  refine Out.bi2 hok (fun h11 hok => Out.bi hok fun hsm hok => ?_) fun _ hok => Out.bi hok fun hn hok => Out.bi2 hok (fun h0 _ => ?_) fun h0 hok => Out.bi hok fun hsm hok => ?_
  · exact appSl_out hA hx (beq_true.1 h11) hr n3 n4 n1 n2 n5 (ble_true.1 hsm) hok
  · have := hx.isNil hn; simp only at this; subst this
    have h0' : k = 0 := beq_true.1 h0
    subst h0'
    exact Out.same hr hx (run_app_nil (ty := ty) hA n3 (n4 w rfl))
  · have := hx.isNil hn; simp only at this; subst this
    have h0' : k ≠ 0 := beq_false.1 h0
    refine appNew_out (r := 0) (cap := 0) (base := none) (olds := []) hA hr n3 n4 (fun _ _ => rfl) (by omega) (by have := ble_true.1 hsm; omega) (by simp) (by simpa using n1) n2 (by simpa using n5) hok
end Go.Eng
