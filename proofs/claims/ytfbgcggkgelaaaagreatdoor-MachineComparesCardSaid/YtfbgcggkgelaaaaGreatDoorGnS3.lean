/- A part of the proof that the evaluator in GnC, and the driver in GnZ, answer as the model does; no conditions. -/
import Derived.Test.YtfbgcggkgelaaaaGreatDoorGnS2
namespace Go.Eng
open Go.RowKit
variable {P : Program} {w0 : World}

def AllOk (l : RL) : Prop := ∀ x ∈ l, x.tag ≠ 3
theorem failR_bad {n : Nat} (h : AllOk (failR n)) : False := h _ (List.mem_singleton.2 rfl) rfl
theorem AllOk.bi {b : Bool} {x : RL} {n : Nat} (h : AllOk (bi b x (failR n))) : b = true ∧ AllOk x := by
  cases b
  · exact (failR_bad h).elim
  · exact ⟨rfl, h⟩

/-- One way through leads on with a value and a memory that stand for what the code makes. -/
def Out (P : Program) (w0 : World) (Y : Value → World → Prop) (H : Hp) (φ : Ph) (L : RL) (c : Kont) : Prop :=
  ∃ H' v φ' val w', (∀ x ∈ c H' v, x ∈ L) ∧ Y val w' ∧ VR φ' v val ∧ HR P w0 H' φ' w' ∧ EX H φ H' φ'

section out
variable {Y : Value → World → Prop} {H : Hp} {φ : Ph} {c : Kont} {w : World}
theorem Out.bi {b : Bool} {x : RL} {n : Nat} (hok : AllOk (bi b x (failR n))) (h : b = true → AllOk x → Out P w0 Y H φ x c) : Out P w0 Y H φ (bi b x (failR n)) c := by
  cases b
  · exact (failR_bad hok).elim
  · exact h rfl hok
theorem Out.bi2 {b : Bool} {x y : RL} (hok : AllOk (Eng.bi b x y)) (h : b = true → AllOk x → Out P w0 Y H φ x c) (h' : b = false → AllOk y → Out P w0 Y H φ y c) : Out P w0 Y H φ (Eng.bi b x y) c := by
  cases b
  · exact h' rfl hok
  · exact h rfl hok
theorem Out.om {α : Type} {o : Option α} {f : α → RL} {n : Nat} (hok : AllOk (om o (failR n) f)) (h : ∀ a, o = some a → AllOk (f a) → Out P w0 Y H φ (f a) c) : Out P w0 Y H φ (om o (failR n) f) c := by
  cases o with
  | none => exact (failR_bad hok).elim
  | some a => exact h a rfl hok
theorem Out.same {v : AV} {val : Value} (hr : HR P w0 H φ w) (hv : VR φ v val) (hy : Y val w) : Out P w0 Y H φ (c H v) c :=
  ⟨H, v, φ, val, w, fun _ h => h, hy, hv, hr, EX.refl H φ⟩
theorem Out.known {v : AV} {n : Nat} (hok : AllOk (knownK v H c n)) (h : v.tag ≠ 18 → Out P w0 Y H φ (c H v) c) : Out P w0 Y H φ (knownK v H c n) c := by
  unfold knownK at hok ⊢
  cases hb : nbeq v.tag 18
  · exact h (beq_false.1 hb)
  · rw [hb] at hok; exact (failR_bad hok).elim
/-- a new block -/
theorem Out.newL {B : AB} {mk : Nat → AV} {o : Obj} {val : Value} (K : Nat) (hr : HR P w0 H φ w) (hB : ∀ φ' : Ph, Le φ φ' → φ'.k w.heap.size = K → BRel P φ' w.heap.size B o)
    (hv : ∀ φ' : Ph, Le φ φ' → φ' H.n = some w.heap.size → φ'.k w.heap.size = K → φ'.tl H.n = B.cs.length → VR φ' (mk H.n) val) (hy : Y val (w.alloc o))
    (hok : AllOk (newC H B mk c)) : Out P w0 Y H φ (newC H B mk c) c := by
  unfold newC at hok ⊢
  refine Out.bi hok fun hn _ => ?_
  have hn' := ble_true.1 hn
  have hfree : φ H.n = none := by
    cases h : φ H.n with
    | none => rfl
    | some x => exact absurd (hr.blk _ _ h).1 (by omega)
  let φ' : Ph := ⟨fun b => if b = H.n then some w.heap.size else φ b, fun x => if x = w.heap.size then K else φ.k x, φ.op, φ.fz, fun b => if b = H.n then B.cs.length else φ.tl b⟩
  have hkk : φ'.k w.heap.size = K := by simp [φ']
  have hkx : ∀ x, x ≠ w.heap.size → φ'.k x = φ.k x := fun x hx => by simp [φ', hx]
  have hkeep : Le φ φ' := by
    refine ⟨?_, rfl, fun _ _ h => h, fun b x hb => if_neg fun e => by rw [e, hfree] at hb; cases hb⟩
    intro b x hb
    have : b ≠ H.n := fun e => by rw [e, hfree] at hb; cases hb
    obtain ⟨_, _, o, h3, _⟩ := hr.blk b x hb
    have hlt := (Array.getElem?_eq_some_iff.1 h3).1
    exact ⟨by simp only [φ', if_neg this]; exact hb, hkx x (by omega)⟩
  have hφn : φ' H.n = some w.heap.size := by simp [φ']
  have hold : ∀ b x, φ' b = some x → b ≠ H.n → φ b = some x := by
    intro b x hb hne; simpa only [φ', if_neg hne] using hb
  have hlt : ∀ b x, φ b = some x → b < H.n ∧ x < w.heap.size := by
    intro b x hb
    obtain ⟨h1, h2, o, h3, _⟩ := hr.blk b x hb
    exact ⟨h1, (Array.getElem?_eq_some_iff.1 h3).1⟩
  have hs : (hnew H B).n = H.n + 1 := hnew_n _ _
  refine ⟨hnew H B, mk H.n, φ', val, w.alloc o, fun _ h => h, hy, hv φ' hkeep hφn hkk (if_pos rfl), ?_, ?_⟩
  · refine ⟨?_, ?_, by omega, by have := hr.lim; show H.lim ≤ _; omega, hr.below.alloc (hr.below.size) o, hr.gl.mono hkeep, hr.op, ?_, ?_, hr.fo⟩
    · intro b x hb
      by_cases hbn : b = H.n
      · subst hbn
        rw [hφn] at hb; cases hb
        refine ⟨by omega, fun _ => hr.below.size, o, ?_, ?_⟩
        · show (w.heap.push o)[w.heap.size]? = _
          simp
        · rw [hget_hnew (by omega) (by omega), if_pos rfl]; exact hB φ' hkeep hkk
      · have hb' := hold b x hb hbn
        obtain ⟨h1, h2, o', h3, h4⟩ := hr.blk b x hb'
        refine ⟨by omega, h2, o', ?_, ?_⟩
        · rw [Below.heap_alloc _ _ _ (hlt b x hb').2]; exact h3
        · rw [hget_hnew (by omega) (by omega), if_neg (by omega)]; exact h4.mono hkeep (hkx x (by have := (hlt b x hb').2; omega))
    · intro b b' x hb hb' hk hk'
      by_cases hbn : b = H.n
      · by_cases hbn' : b' = H.n
        · rw [hbn, hbn']
        · rw [hbn, hφn] at hb; cases hb
          exact absurd (hlt _ _ (hold b' _ hb' hbn')).2 (by omega)
      · by_cases hbn' : b' = H.n
        · rw [hbn', hφn] at hb'; cases hb'
          exact absurd (hlt _ _ (hold b _ hb hbn)).2 (by omega)
        · have e1 := hold b x hb hbn
          have e2 := hold b' x hb' hbn'
          have l1 := (hlt _ _ e1).1; have l2 := (hlt _ _ e2).1
          rw [hget_hnew (by omega) (by omega), if_neg (by omega)] at hk hk'
          exact hr.inj b b' x e1 e2 hk hk'
    · intro x C hx
      obtain ⟨⟨t, fr, h1⟩, h2⟩ := hr.fz x C hx
      have hxs := (Array.getElem?_eq_some_iff.1 h1).1
      refine ⟨⟨t, fr, by rw [Below.heap_alloc _ _ _ hxs]; exact h1⟩, fun b hb hl => ?_⟩
      by_cases hbn : b = H.n
      · rw [hbn, hφn] at hb; cases hb; omega
      · have e1 := hold b x hb hbn
        have l1 := (hlt _ _ e1).1
        rw [hget_hnew (by omega) (by omega), if_neg (by omega)]
        exact h2 b e1 hl
    · intro b x hb hk
      by_cases hbn : b = H.n
      · subst hbn
        rw [hget_hnew (by omega) (by omega), if_pos rfl]
        exact (if_pos rfl).symm
      · have e1 := hold b x hb hbn
        have l1 := (hlt _ _ e1).1
        rw [hget_hnew (by omega) (by omega), if_neg (by omega)] at hk ⊢
        exact (hr.tl b x e1 hk).trans (if_neg hbn).symm
  · refine ⟨hkeep, ?_, by omega, rfl, ?_, ?_, ?_, ?_⟩
    · intro b x hb hnone
      by_cases hbn : b = H.n
      · omega
      · rw [hold b x hb hbn] at hnone; cases hnone
    · intro b hb hb'
      by_cases hbn : H.n = b
      · have := hr.lim; omega
      · rw [hget_hnew (by omega) hb', if_neg hbn]
    · intro b hb _ _
      rw [hget_hnew (by omega) (by omega), if_neg (by omega)]
    · intro b hb hb' hk
      rw [hget_hnew (by omega) hb', if_neg (by omega)]; exact hk
    · exact fun _ _ h => .inl h
theorem Out.newK {B : AB} {mk : Nat → AV} {o : Obj} {val : Value} (K : Nat) (hr : HR P w0 H φ w) (hB : ∀ φ' : Ph, Le φ φ' → φ'.k w.heap.size = K → BRel P φ' w.heap.size B o)
    (hv : ∀ φ' : Ph, Le φ φ' → φ' H.n = some w.heap.size → φ'.k w.heap.size = K → VR φ' (mk H.n) val) (hy : Y val (w.alloc o))
    (hok : AllOk (newC H B mk c)) : Out P w0 Y H φ (newC H B mk c) c := Out.newL K hr hB (fun φ' h1 h2 h3 _ => hv φ' h1 h2 h3) hy hok
theorem Out.new {B : AB} {mk : Nat → AV} {o : Obj} {val : Value} (hr : HR P w0 H φ w) (hB : BRel P φ w.heap.size B o)
    (hv : ∀ φ' : Ph, Le φ φ' → φ' H.n = some w.heap.size → VR φ' (mk H.n) val) (hy : Y val (w.alloc o))
    (hok : AllOk (newC H B mk c)) : Out P w0 Y H φ (newC H B mk c) c :=
  Out.newK (φ.k w.heap.size) hr (fun _ hle hk => hB.mono hle hk) (fun φ' hle hn _ => hv φ' hle hn) hy hok
/-- a block of the call's own is written -/
theorem Out.set {b x : Nat} {B : AB} {o' : Obj} {v : AV} {val : Value} {w' : World} (hr : HR P w0 H φ w) (hb : φ b = some x) (hk : (hget H b).kind ≠ 0)
    (hB : BRel P φ x B o') (hv : VR φ v val) (hy : Y val w') (hx : w'.heap[x]? = some o') (hrest : ∀ k, k ≠ x → w'.heap[k]? = w.heap[k]?) (hsz : w'.heap.size = w.heap.size)
    (hos : w'.os = w.os) (htape : w'.tape = w.tape) (hout : w'.output = w.output)
    (hok : AllOk (setC H b B v c)) (hk5 : (hget H b).kind = 5 → B.kind = 5 := by intro h; omega)
    (hk7 : (hget H b).kind ≠ 7 := by omega) (hk6 : B.kind = 6 ∨ B.kind = 7 → B.cs.length = φ.tl b := by intro h; rcases h with h | h <;> first | omega | (simp at h; done) | (cases h; done)) : Out P w0 Y H φ (setC H b B v c) c := by
  unfold setC at hok ⊢
  refine Out.bi hok fun hl _ => ?_
  have hl' := ble_true.1 hl
  have hn := hr.n
  obtain ⟨h1, h2, o, h3, h4⟩ := hr.blk b x hb
  have h2 := h2 hl'
  have hbel : Below w0.heap.size w w' := ⟨hos, htape, hout, by omega, fun k hk => hrest k (by omega)⟩
  refine ⟨hset H b B, v, φ, val, w', fun _ h => h, hy, hv, ⟨?_, ?_, hr.n, hr.lim, hr.below.trans hbel, hr.gl, hr.op, ?_, ?_, hr.fo⟩, ⟨Le.refl φ, fun b x h h' => (by rw [h] at h'; cases h'), Nat.le_refl _, rfl, ?_, ?_, ?_, fun _ _ h => .inl h⟩⟩
  · intro b' x' hb'
    obtain ⟨g1, g2, o1, g3, g4⟩ := hr.blk b' x' hb'
    by_cases he : b = b'
    · subst he
      rw [hb] at hb'; cases hb'
      exact ⟨g1, g2, o', hx, by rw [hget_hset (by omega) (by omega), if_pos rfl]; exact hB⟩
    · by_cases hxx : x' = x
      · subst hxx
        refine ⟨g1, g2, o', hx, ?_⟩
        rw [hget_hset (by omega) (by omega), if_neg he]
        have hz : (hget H b').kind = 0 := by
          cases hz : decide ((hget H b').kind = 0) with
          | true => exact of_decide_eq_true hz
          | false => exact absurd (hr.inj b b' _ hb hb' hk (of_decide_eq_false hz)) he
        exact ⟨fun h => by omega, fun h => by omega, fun h => by omega, fun h => by omega⟩
      · refine ⟨g1, g2, o1, by rw [hrest _ hxx]; exact g3, ?_⟩
        rw [hget_hset (by omega) (by omega), if_neg he]; exact g4
  · intro b1 b2 x1 e1 e2 k1 k2
    have l1 := (hr.blk _ _ e1).1; have l2 := (hr.blk _ _ e2).1
    have key : ∀ b1, b1 < H.n → (hget (hset H b B) b1).kind ≠ 0 → (hget H b1).kind ≠ 0 := by
      intro b1 hb1 hk1
      rw [hget_hset (by omega) (by omega)] at hk1
      by_cases he : b = b1
      · subst he; exact hk
      · rw [if_neg he] at hk1; exact hk1
    exact hr.inj b1 b2 x1 e1 e2 (key b1 l1 k1) (key b2 l2 k2)
  · intro y C hy
    obtain ⟨⟨t, fr, g1⟩, g2⟩ := hr.fz y C hy
    have hyx : y ≠ x := by
      intro e; subst e
      rcases g2 b hb hl' with h | h
      · exact hk h
      · exact hk7 h
    refine ⟨⟨t, fr, by rw [hrest _ hyx]; exact g1⟩, fun b' hb' hl2 => ?_⟩
    have l1 := (hr.blk _ _ hb').1
    have hne : b ≠ b' := fun e => by subst e; rw [hb] at hb'; cases hb'; exact hyx rfl
    rw [hget_hset (by omega) (by omega), if_neg hne]
    exact g2 b' hb' hl2
  · intro b' x' hb' hk'
    have l1 := (hr.blk _ _ hb').1
    by_cases he : b = b'
    · subst he
      rw [hget_hset (by omega) (by omega), if_pos rfl] at hk' ⊢
      exact hk6 hk'
    · rw [hget_hset (by omega) (by omega), if_neg he] at hk' ⊢
      exact hr.tl b' x' hb' hk'
  · intro k hk1 hk2
    rw [hget_hset (by omega) hk2, if_neg (by omega)]
  · intro k hk1 hk2 _
    rw [hget_hset (by omega) (by omega), if_neg (fun e => by rw [← e, hb] at hk2; cases hk2)]
  · intro k hk1 hk2 hk3
    rw [hget_hset (by omega) hk2]
    split
    · rename_i e; subst e; exact hk5 hk3
    · exact hk3
end out

theorem run_newObj (P : Program) (w : World) (o : Obj) : (newObj o).run P w = .ok w.heap.size (w.alloc o) := rfl
theorem Sem.run_pure' {α : Type} (P : Program) (a : α) (w : World) : (pure a : Sem α).run P w = .ok a w := rfl
theorem run_typeInfo {t : TypeId} {i : TypeInfo} (h : P.info? t = some i) (w : World) : (typeInfo t).run P w = .ok i w := by
  simp only [typeInfo, program, Sem.run_bind, Sem.run, Result.andThen_ok, h]; rfl
theorem run_sizeOf {t : TypeId} {n : Nat} (h : (szB P t).run = some n) (w : World) : (sizeOf t).run P w = .ok n w := by
  obtain ⟨i, hi, rfl⟩ := Option.map_eq_some_iff.1 (show (P.info? t).map (·.size) = some n from h)
  simp only [sizeOf, Sem.run_bind, run_typeInfo hi, Result.andThen_ok, Sem.run_pure']
theorem run_zero {t : TypeId} {i : TypeInfo} {z : Value} (h : P.info? t = some i) (hz : i.zero = some z) (w : World) : (zeroValue t).run P w = .ok z w := by
  simp only [zeroValue, Sem.run_bind, run_typeInfo h, Result.andThen_ok, hz, Sem.run_pure']
theorem run_und {t : TypeId} {d : TypeDesc} (h : (tyB P t).run = some d) (w : World) : (underlying t).run P w = .ok d w := run_underlying h w
theorem run_agg {t : TypeId} {d : TypeDesc} (h : (tyB P t).run = some d) (w : World) : (isAgg t).run P w = .ok (isAggT P t) w := by
  simp only [isAgg, Sem.run_bind, run_und h, Result.andThen_ok, isAggT, h]
  cases d <;> rfl

/-! ### constants -/
theorem kOf_kCode (k : IntKind) : kOf (kCode k) = k := by cases k <;> rfl
theorem kCode_lt (k : IntKind) : kCode k < 8 := by cases k <;> decide

/-! ### moving, choosing, new variables -/
section ops
variable {H : Hp} {φ : Ph} {c : Kont} {w : World}
theorem pick_out {a b d : AV} {va vb vd : Value} (ha : VR φ a va) (hb : VR φ b vb) (hd : VR φ d vd) (hr : HR P w0 H φ w) (hok : AllOk (pickC.run a b d H c)) :
    Out P w0 (fun v w' => ((do pure (.value (if ← asBool va then vb else vd)) : Sem Next)).run P w = .ok (.value v) w') H φ (pickC.run a b d H c) c := by
  refine Out.bi hok fun ht _ => ?_
  obtain ⟨t, rfl, hp, _⟩ := ha.of_bool (beq_true.1 ht)
  rw [hp]
  cases t
  · exact Out.same hr hd (by simp [asBool])
  · exact Out.same hr hb (by simp [asBool])
theorem Ovrs_single {a : AV} {v : Value} (h : VR φ a v) : VRs φ [a] [v] := .cons h .nil
theorem box_out {t : TypeId} {a : AV} {va : Value} (ha : VR φ a va) (hr : HR P w0 H φ w) (hok : AllOk (boxC.run a H c)) :
    Out P w0 (fun v w' => (Instr.box t va).run P w = .ok v w') H φ (boxC.run a H c) c := by
  refine Out.bi hok fun ht hok => ?_
  obtain ⟨h1, h2⟩ := ha.cells ht
  refine Out.new (o := .cells va.cells t) (val := .pointer (some ⟨w.heap.size, 0, none⟩)) hr ?_ ?_ ?_ hok
  · exact ⟨fun _ => ⟨va.cells.toList, [], t, by simp, h1, h2, fun h => by cases h⟩, fun h => by simp [cellsB] at h, fun h => by simp [cellsB] at h, no41⟩
  · intro φ' _ h; exact .ptr _ _ _ _ _ _ h
  · simp only [Instr.box, newVar, newRow, Sem.run_bind, run_newObj, Result.andThen_ok, Sem.run_pure']

theorem Addr.add_mid (x o j : Nat) : (⟨x, o, none⟩ : Addr).add j = ⟨x, o + j, none⟩ := by unfold Addr.add; split <;> simp_all
theorem cell_of {x o : Nat} {cs : List Value} {t : TypeId} (h : w.heap[x]? = some (.cells cs.toArray t)) (v : Value) (hv : cs[o]? = some v) : w.cell? ⟨x, o, none⟩ = some v := by
  simp [World.cell?, h, hv]
theorem get_prefix {l rest : List Value} {i : Nat} {v : Value} (h : l[i]? = some v) : (l ++ rest)[i]? = some v := by
  rw [List.getElem?_append_left (List.getElem?_eq_some_iff.1 h).1]; exact h
/-- cells of a block, loaded in a row -/
theorem run_loadCells_in {x off n : Nat} {cs : List Value} {t : TypeId} (h : w.heap[x]? = some (.cells cs.toArray t)) (hn : n ≤ cs.length - off) :
    (loadCells ⟨x, off, none⟩ n).run P w = .ok ((cs.drop off).take n).toArray w := by
  have hl : ((cs.drop off).take n).length = n := by rw [List.length_take, List.length_drop]; omega
  have := run_loadCells_list (P := P) w ⟨x, off, none⟩ ((cs.drop off).take n) (fun j v hv => by
    rw [Addr.add_mid]
    refine cell_of h v ?_
    rw [List.getElem?_take] at hv
    split at hv
    · rw [List.getElem?_drop] at hv; exact hv
    · cases hv)
  rwa [hl] at this
theorem load1_out {t : TypeId} {d : TypeDesc} {a : AV} {va : Value} (ht : (tyB P t).run = some d) (hg : isAggT P t = false) (ha : VR φ a va) (hr : HR P w0 H φ w) (hok : AllOk (load1.run a H c)) :
    Out P w0 (fun v w' => (Instr.loadAt t va).run P w = .ok v w') H φ (load1.run a H c) c := by
  refine Out.bi hok fun h10 hok => Out.bi hok fun hk hok => Out.known hok fun hne => ?_
  obtain ⟨x, rfl, hx⟩ := ha.of_ptr (beq_true.1 h10)
  obtain ⟨_, _, o, ho, hB⟩ := hr.blk _ _ hx
  obtain ⟨l, rest, t', rfl, hl, _, _⟩ := hB.cells (beq_true.1 hk)
  rw [nthL_eq] at hne ⊢
  cases hcs : (hget H a.p).cs[a.q]? with
  | none => rw [hcs] at hne; exact absurd rfl hne
  | some e =>
    obtain ⟨v, hv, hve⟩ := hl.get hcs
    refine Out.same hr hve ?_
    simp only [Instr.loadAt, Instr.sureAddr, loadVar, Sem.run_bind, Sem.run_pure', run_agg ht, hg, Result.andThen_ok, run_load]
    simp [cell_of ho v (get_prefix hv)]
theorem loadA_out {t : TypeId} {d : TypeDesc} {sz : Nat} {a : AV} {va : Value} (ht : (tyB P t).run = some d) (hs : (szB P t).run = some sz) (hg : isAggT P t = true) (ha : VR φ a va) (hr : HR P w0 H φ w) (hok : AllOk ((loadA sz).run a H c)) :
    Out P w0 (fun v w' => (Instr.loadAt t va).run P w = .ok v w') H φ ((loadA sz).run a H c) c := by
  refine Out.bi hok fun h10 hok => Out.bi hok fun hk hok => Out.om hok fun cs hcs hok => ?_
  obtain ⟨x, rfl, hx⟩ := ha.of_ptr (beq_true.1 h10)
  obtain ⟨_, _, o, ho, hB⟩ := hr.blk _ _ hx
  obtain ⟨l, rest, t', rfl, hl, h1, _⟩ := hB.cells (beq_true.1 hk)
  rw [dropL_eq] at hcs
  obtain ⟨hlen, rfl⟩ := takeL_some hcs
  have hll := hl.length
  have e : ((l ++ rest).drop a.q).take sz = (l.drop a.q).take sz := by
    rw [List.drop_append, List.take_append]
    rw [List.length_drop] at hlen
    have : sz - (l.drop a.q).length = 0 := by rw [List.length_drop]; omega
    rw [this]; simp
  refine Out.same hr (.agg _ _ _ _ _ _ ((hl.drop a.q).take sz) ?_) ?_
  · intro c hc
    exact h1 c (List.mem_of_mem_drop (List.mem_of_mem_take hc))
  · simp only [Instr.loadAt, Instr.sureAddr, loadVar, Sem.run_bind, Sem.run_pure', run_agg ht, hg, Result.andThen_ok, run_sizeOf hs, if_true]
    rw [run_loadCells_in ho (by rw [List.length_drop] at hlen; rw [List.length_append]; omega)]
    simp only [Result.andThen_ok, e]
theorem store_out {t : TypeId} {sz : Nat} {a b : AV} {va vb : Value} (hs : (szB P t).run = some sz) (ha : VR φ a va) (hb : VR φ b vb) (hr : HR P w0 H φ w) (hok : AllOk ((storeC sz).run a b H c)) :
    Out P w0 (fun v w' => (Instr.storeAt t va vb).run P w = .ok () w' ∧ v = undef) H φ ((storeC sz).run a b H c) c := by
  refine Out.bi hok fun h10 hok => Out.bi hok fun hk hok => Out.bi hok fun ho1 hok => Out.bi hok fun hlen hok => Out.om hok fun cs hcs hok => ?_
  obtain ⟨x, rfl, hx⟩ := ha.of_ptr (beq_true.1 h10)
  obtain ⟨_, _, o, ho, hB⟩ := hr.blk _ _ hx
  have hk' := beq_true.1 hk
  obtain ⟨l, rest, t', rfl, hl, h1, hrest⟩ := hB.cells hk'
  obtain ⟨hc1, hc2⟩ := hb.cells ho1
  obtain ⟨hfit, rfl⟩ := putC_some hcs
  have hlen' := beq_true.1 hlen
  rw [lenL_eq] at hlen'
  have hvl : vb.cells.toList.length = sz := by rw [← hc1.length]; exact hlen'
  have hll := hl.length
  have hone : ∀ v ∈ vb.cells.toList, v.oneCell' = true := by
    intro v hv
    obtain ⟨i, hi⟩ := List.mem_iff_getElem?.1 hv
    have hi' : i < (cellsOf b).length := by rw [hc1.length]; exact (List.getElem?_eq_some_iff.1 hi).1
    obtain ⟨v', hv', hvr⟩ := hc1.get (List.getElem?_eq_getElem hi')
    rw [hi] at hv'; cases hv'
    exact (hvr.one (hc2 _ (List.getElem_mem hi'))).1
  have hst := run_storeCells_at (P := P) x a.q t' vb.cells.toList 0 (l ++ rest).toArray w ho (by rw [List.size_toArray, List.length_append]; omega) hone
  refine Out.set (x := x) (o' := .cells (l.take a.q ++ vb.cells.toList ++ l.drop (a.q + sz) ++ rest).toArray t')
    (w' := w.setRow x (((l ++ rest).toArray).toList.take (a.q + 0) ++ vb.cells.toList ++ ((l ++ rest).toArray).toList.drop (a.q + 0 + vb.cells.toList.length)).toArray) hr hx (by omega) ?_ (.ud _ _ _ _ _) ⟨?_, rfl⟩ ?_ ?_ (by simp [World.setRow]) rfl rfl rfl hok
  · refine ⟨fun _ => ⟨l.take a.q ++ vb.cells.toList ++ l.drop (a.q + sz), rest, t', rfl, ?_, ?_, ?_⟩, (fun h => by cases h), (fun h => by cases h), fun h => by have : 4 ≤ 1 := h; omega⟩
    · show VRs φ (_ ++ _ ++ _) _
      rw [hlen']
      exact ((hl.take _).append hc1).append (hl.drop _)
    · intro c hc
      have hc : c ∈ (hget H a.p).cs.take a.q ++ cellsOf b ++ (hget H a.p).cs.drop (a.q + (cellsOf b).length) := hc
      rw [List.mem_append, List.mem_append] at hc
      rcases hc with (hc | hc) | hc
      · exact h1 c (List.mem_of_mem_take hc)
      · exact hc2 c hc
      · exact h1 c (List.mem_of_mem_drop hc)
    · intro he
      have := hrest he
      rw [List.length_append] at this
      simp only [List.length_append, List.length_take, List.length_drop]
      show _ = φ.k x * (hget H a.p).t
      omega
  · simp only [Instr.storeAt, Instr.sureAddr, storeVar, Sem.run_bind, Sem.run_pure', Result.andThen_ok, run_sizeOf hs]
    rw [if_neg (by simpa using hvl)]
    exact hst
  · rw [setRow_heap w x _ _ t' (0, 0) ho]
    have : a.q + 0 + vb.cells.toList.length = a.q + sz := by omega
    congr 3
    rw [this]
    simp only [Nat.add_zero]
    rw [List.take_append_of_le_length (by omega), List.drop_append_of_le_length (by omega)]
    simp only [List.append_assoc]
  · intro k hk
    simp [World.setRow, Array.getElem?_modify, Ne.symm hk]
theorem nil_out {a : AV} {va : Value} (ρ : Operand → Value) (x : Operand) (o : Oper) (ho : o.op = .nilCheck x) (hρ : ρ x = va) (ha : VR φ a va) (hr : HR P w0 H φ w) (hok : AllOk (nilC.run a H c)) :
    Out P w0 (fun v w' => (execOp ρ o).run P w = .ok (.value v) w') H φ (nilC.run a H c) c := by
  refine Out.bi hok fun ht _ => Out.same hr ha ?_
  have ht' := ble_true.1 ht
  subst hρ
  generalize hv : ρ x = v at ha
  have key : (match v with | .pointer none | .nilIface | .nilFunc => False | .func (.method _) _ _ => False | _ => True) := by
    cases ha <;> first | trivial | (simp only at ht'; omega)
  simp only [execOp, ho, hv]
  split <;> first | exact key.elim | rfl
end ops
end Go.Eng
