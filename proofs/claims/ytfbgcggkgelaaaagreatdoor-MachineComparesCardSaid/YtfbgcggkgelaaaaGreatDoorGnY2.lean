/- A part of the proof that the evaluator in GnC, and the driver in GnZ, answer as the model does; no conditions. -/
import Derived.Test.YtfbgcggkgelaaaaGreatDoorGnY1
namespace Go.Eng
open Go.RowKit
variable {P : Program} {w0 : World} {H : Hp} {φ : Ph} {c : Kont} {w : World} {z : Nat → Option (List Value)}

theorem flatL_cons (a : AV) (l : List AV) : flatL (a :: l) = cellsOf a ++ flatL l := appL_eq _ _
theorem flatL_append (a b : List AV) : flatL (a ++ b) = flatL a ++ flatL b := by
  induction a with
  | nil => rfl
  | cons x a ih => rw [List.cons_append, flatL_cons, flatL_cons, ih, List.append_assoc]
theorem flatL_len {l : List AV} {sz : Nat} (h : ∀ c ∈ l, cellsOk c = true ∧ (cellsOf c).length = sz) : (flatL l).length = l.length * sz := by
  induction l with
  | nil => simp [flatL]
  | cons a l ih =>
    rw [flatL_cons, List.length_append, ih fun c hc => h c (by simp [hc]), (h a (by simp)).2, List.length_cons, Nat.add_mul]; omega
theorem flatL_at {sz : Nat} : ∀ {l : List AV}, (∀ c ∈ l, cellsOk c = true ∧ (cellsOf c).length = sz) → ∀ {i : Nat} {e : AV}, l[i]? = some e → ((flatL l).drop (i * sz)).take sz = cellsOf e := by
  intro l
  induction l with
  | nil => intro _ i e h; simp at h
  | cons a l ih =>
    intro h i e hi
    have ha := (h a (by simp)).2
    rw [flatL_cons]
    cases i with
    | zero =>
      simp at hi; subst hi
      rw [Nat.zero_mul, List.drop_zero, ← ha, List.take_left']; rfl
    | succ i =>
      have e1 : (i + 1) * sz = (cellsOf a).length + i * sz := by rw [ha, Nat.add_mul]; omega
      rw [e1, ← List.drop_drop, List.drop_left' rfl]
      exact ih (fun c hc => h c (by simp [hc])) (by simpa using hi)
theorem flatL_take {sz : Nat} : ∀ {l : List AV}, (∀ c ∈ l, cellsOk c = true ∧ (cellsOf c).length = sz) → ∀ n, (flatL l).take (n * sz) = flatL (l.take n) := by
  intro l
  induction l with
  | nil => intro _ n; simp [flatL]
  | cons a l ih =>
    intro h n
    have ha := (h a (by simp)).2
    cases n with
    | zero => simp [flatL]
    | succ n =>
      have e1 : (n + 1) * sz = (cellsOf a).length + n * sz := by rw [ha, Nat.add_mul]; omega
      rw [flatL_cons, List.take_succ_cons, flatL_cons, e1, List.take_append, List.take_of_length_le (by omega)]
      congr 1
      rw [show (cellsOf a).length + n * sz - (cellsOf a).length = n * sz by omega]
      exact ih (fun c hc => h c (by simp [hc])) n
theorem flatL_drop {sz : Nat} : ∀ {l : List AV}, (∀ c ∈ l, cellsOk c = true ∧ (cellsOf c).length = sz) → ∀ n, (flatL l).drop (n * sz) = flatL (l.drop n) := by
  intro l
  induction l with
  | nil => intro _ n; simp [flatL]
  | cons a l ih =>
    intro h n
    have ha := (h a (by simp)).2
    cases n with
    | zero => simp
    | succ n =>
      have e1 : (n + 1) * sz = (cellsOf a).length + n * sz := by rw [ha, Nat.add_mul]; omega
      rw [flatL_cons, List.drop_succ_cons, e1, ← List.drop_drop, List.drop_left' rfl]
      exact ih (fun c hc => h c (by simp [hc])) n
theorem takeN_eq {α : Type} : ∀ (n : Nat) (l : List α), takeN n l = l.take n := by
  intro n
  induction n with
  | zero => intro l; rfl
  | succ n ih => intro l; cases l with
    | nil => rfl
    | cons a l => show a :: takeN n l = _; rw [ih]; rfl
theorem putN_eq {α : Type} (x : α) : ∀ (n : Nat) (l : List α), putN x n l = l.set n x := by
  intro n
  induction n with
  | zero => intro l; cases l <;> rfl
  | succ n ih => intro l; cases l with
    | nil => rfl
    | cons a l => show a :: putN x n l = _; rw [ih]; rfl

theorem cell_of' {x o : Nat} {cs : List Value} {t : TypeId} {fr : Nat × Nat} (h : w.heap[x]? = some (.cells cs.toArray t fr)) (v : Value) (hv : cs[o]? = some v) : w.cell? ⟨x, o, none⟩ = some v := by
  simp [World.cell?, h, hv]
theorem run_loadCells_in' {x off n : Nat} {cs : List Value} {t : TypeId} {fr : Nat × Nat} (h : w.heap[x]? = some (.cells cs.toArray t fr)) (hn : n ≤ cs.length - off) :
    (loadCells ⟨x, off, none⟩ n).run P w = .ok ((cs.drop off).take n).toArray w := by
  have hl : ((cs.drop off).take n).length = n := by rw [List.length_take, List.length_drop]; omega
  have := run_loadCells_list (P := P) w ⟨x, off, none⟩ ((cs.drop off).take n) (fun j v hv => by
    rw [Addr.add_mid]
    refine cell_of' h v ?_
    rw [List.getElem?_take] at hv
    split at hv
    · rw [List.getElem?_drop] at hv; exact hv
    · cases hv)
  rwa [hl] at this
/-- a value is read out of cells of which the tags are known -/
theorem peekY_out {t : TypeId} {d : TypeDesc} {sz x off : Nat} {ks : List Nat} {cs : List AV} {l cells : List Value} {q : Nat} {ty : TypeId} {fr : Nat × Nat} (ht : (tyB P t).run = some d) (hs : (szB P t).run = some sz)
    (hks : ∀ k ∈ ks, k ≤ 9 ∨ 32 ≤ k) (hlen : ks.length = bi (isAggT P t) sz 1) (ho : w.heap[x]? = some (.cells cells.toArray ty fr)) (hl : FZs φ.fz cs l) (hc : (cells.drop off).take l.length = l) (hr : HR P w0 H φ w)
    (hok : AllOk (peekY (isAggT P t) ks cs q H c)) : Out P w0 (fun v w' => (Instr.loadAt t (.pointer (some ⟨x, off + q, none⟩))).run P w = .ok v w') H φ (peekY (isAggT P t) ks cs q H c) c := by
  refine Out.bi hok fun h1 _ => ?_
  obtain ⟨g1, g2, g3, g4⟩ := tagsAt_ok ks hks hl q h1
  have hln : l.length ≤ cells.length - off := by
    have := congrArg List.length hc
    rw [List.length_take, List.length_drop] at this; omega
  have hin : ∀ i v, l[i]? = some v → cells[off + i]? = some v := by
    intro i v hv
    rw [← hc, List.getElem?_take] at hv
    split at hv
    · rwa [List.getElem?_drop] at hv
    · cases hv
  cases hg : isAggT P t
  · rw [hg, bi_false] at hlen
    have hq : q + 1 ≤ l.length := by rcases g2 with h | h; rw [h] at hlen; cases hlen; omega
    have hql : q < l.length := by omega
    have e : (l.drop q).take ks.length = [l[q]] := by
      rw [hlen, List.drop_eq_getElem_cons hql]; rfl
    rw [e] at g1
    unfold elemV
    rw [bi_false]
    cases hcan : canAt ks cs q with
    | nil => rw [hcan] at g3; rw [hlen] at g3; cases g3
    | cons a as =>
      rw [hcan] at g1
      cases g1 with | cons g1 _ =>
      refine Out.same hr g1.vr ?_
      simp only [Instr.loadAt, Instr.sureAddr, loadVar, Sem.run_bind, Sem.run_pure', run_agg ht, hg, Result.andThen_ok, run_load]
      simp [cell_of' ho _ (hin q l[q] (by simp [hql]))]
  · rw [hg, bi_true] at hlen
    unfold elemV
    rw [bi_true]
    have e : ((cells.drop (off + q)).take sz) = (l.drop q).take sz := by
      rw [← hc, List.drop_take, List.drop_drop, List.take_take]
      congr 1
      rcases g2 with h | h
      · have : sz = 0 := by rw [h] at hlen; exact hlen.symm
        omega
      · omega
    have hsz : sz ≤ cells.length - (off + q) := by
      rcases g2 with h | h
      · have : sz = 0 := by rw [h] at hlen; exact hlen.symm
        omega
      · omega
    rw [hlen] at g1
    refine Out.same hr (.agg _ _ _ _ _ ((l.drop q).take sz) g1.vrs g4) ?_
    simp only [Instr.loadAt, Instr.sureAddr, loadVar, Sem.run_bind, Sem.run_pure', run_agg ht, hg, Result.andThen_ok, run_sizeOf hs, if_true]
    rw [run_loadCells_in' ho hsz]
    simp only [Result.andThen_ok, e]
/-- the cells behind a list -/
theorem HR.list {b x : Nat} (hr : HR P w0 H φ w) (hb : φ b = some x) (hk : isL (hget H b) = true) : ∃ (l rest : List Value) (t : TypeId) (fr : Nat × Nat), w.heap[x]? = some (.cells (l ++ rest).toArray t fr) ∧ FZs φ.fz (flatL (hget H b).cs) l ∧ (∀ c ∈ (hget H b).cs, cellsOk c = true ∧ (cellsOf c).length = (hget H b).t) ∧
    ((hget H b).kind = 6 → fr = (0, 0)) ∧ (l ++ rest).length = φ.k x * (hget H b).t ∧ (hget H b).cs.length < 2 ^ 40 ∧ 0 < (hget H b).t ∧ (hget H b).cs.length = φ.tl b := by
  have hk' : (hget H b).kind = 6 ∨ (hget H b).kind = 7 := by
    unfold isL at hk
    cases h6 : nbeq (hget H b).kind 6
    · rw [h6] at hk; exact .inr (beq_true.1 hk)
    · exact .inl (beq_true.1 h6)
  obtain ⟨_, _, o, ho, hB⟩ := hr.blk b x hb
  rcases hB.ext (by omega) with ⟨h, _⟩ | ⟨h, _⟩ | ⟨_, l, rest, t, fr, rfl, h2, h3, h4, h5, h6, h7⟩
  · omega
  · omega
  · exact ⟨l, rest, t, fr, ho, h2, h3, h4, h5, h6, h7, hr.tl b x hb hk'⟩
theorem loadY_out {t : TypeId} {d : TypeDesc} {sz : Nat} {a : AV} {va : Value} (ht : (tyB P t).run = some d) (hs : (szB P t).run = some sz) (ha : VR φ a va) (hr : HR P w0 H φ w) (hok : AllOk ((loadY (isAggT P t) sz (ksB P t).run).run a H c)) :
    Out P w0 (fun v w' => (Instr.loadAt t va).run P w = .ok v w') H φ ((loadY (isAggT P t) sz (ksB P t).run).run a H c) c := by
  refine Out.om hok fun ks hks hok => ?_
  refine Out.bi2 hok (fun _ hok => (failR_bad hok).elim) fun hn hok => Out.bi2 hok (fun h26 hok => ?_) fun _ hok => Out.bi hok fun h27 hok => Out.bi hok fun hL hok => Out.bi hok fun hst hok => ?_
  · obtain ⟨e, x, off, C, l, e1, e2, e3, e4, e5, rfl⟩ := (ha.of_fptr (beq_true.1 h26)).of_ptr (beq_true.1 h26)
    have e0 : nthL a.cs 0 = e := by rw [e1]; rfl
    rw [e0] at hok ⊢
    obtain ⟨⟨ty, fr, ho⟩, _⟩ := hr.fz x C e2
    rw [nb_eq] at hn
    refine peekY_out ht hs (ksB_ok hks) (by have := beq_true.1 (show nbeq (lenL ks) (bi (isAggT P t) sz 1) = true by simpa using hn); rwa [lenL_eq] at this) ho e3 e5 hr hok
  · obtain ⟨x, hx, _, rfl⟩ := ha.of_optr (beq_true.1 h27)
    obtain ⟨l, rest, ty, fr, ho, g1, g2, g3, g4, g5, g6, g7⟩ := hr.list hx hL
    have hst := beq_true.1 hst
    have hne : (nthL (hget H a.p).cs a.r).tag ≠ 18 ∨ ks = [] := by
      cases ks with
      | nil => exact .inr rfl
      | cons k ks =>
        left
        intro h18
        have hk := ksB_ok hks k (by simp)
        unfold peekY at hok
        obtain ⟨h1, _⟩ := AllOk.bi hok
        have h1' : bi (tagIs k (nthL (cellsOf (nthL (hget H a.p).cs a.r)) a.q)) (tagsAt ks _ _) false = true := h1
        have ec : cellsOf (nthL (hget H a.p).cs a.r) = [nthL (hget H a.p).cs a.r] := by
          unfold cellsOf; rw [h18]; rfl
        rw [ec] at h1'
        cases hb : tagIs k (nthL [nthL (hget H a.p).cs a.r] a.q)
        · rw [hb] at h1'; cases h1'
        have := tagIs_ok hb
        have e18 : (nthL [nthL (hget H a.p).cs a.r] a.q).tag = 18 := by
          rw [nthL_eq]
          cases a.q with
          | zero => exact h18
          | succ q => rfl
        omega
    rw [nb_eq] at hn
    have hlen : ks.length = bi (isAggT P t) sz 1 := by have := beq_true.1 (show nbeq (lenL ks) (bi (isAggT P t) sz 1) = true by simpa using hn); rwa [lenL_eq] at this
    rcases hne with hne | rfl
    · have hg := nthL_get hne
      have hi := (List.getElem?_eq_some_iff.1 hg).1
      have hm : nthL (hget H a.p).cs a.r ∈ (hget H a.p).cs := List.mem_of_getElem? hg
      have hcl := (g2 _ hm).2
      have hfl := flatL_len g2
      have hl := g1.length
      have hle : (a.r + 1) * (hget H a.p).t ≤ (hget H a.p).cs.length * (hget H a.p).t := Nat.mul_le_mul_right _ hi
      rw [Nat.add_mul, Nat.one_mul] at hle
      have hsub : FZs φ.fz (cellsOf (nthL (hget H a.p).cs a.r)) ((l.drop (a.r * a.s)).take (hget H a.p).t) := by
        have := (g1.drop (a.r * a.s)).take (hget H a.p).t
        rw [hst] at this ⊢
        rwa [flatL_at g2 hg] at this
      refine peekY_out ht hs (ksB_ok hks) hlen ho hsub ?_ hr hok
      have hl2 : ((l.drop (a.r * a.s)).take (hget H a.p).t).length = (hget H a.p).t := by rw [← hsub.length]; exact hcl
      rw [hl2, List.drop_append, List.take_append]
      rw [hst]
      rw [Nat.sub_eq_zero_of_le (by rw [List.length_drop]; omega : (hget H a.p).t ≤ (l.drop (a.r * (hget H a.p).t)).length)]
      simp
    · have h0 : bi (isAggT P t) sz 1 = 0 := hlen.symm
      have hg : isAggT P t = true := by cases hg : isAggT P t; rw [hg] at h0; cases h0; rfl
      rw [hg, bi_true] at h0
      have e : peekY (isAggT P t) [] (cellsOf (nthL (hget H a.p).cs a.r)) a.q H c = c H (aggV []) := by rw [hg]; rfl
      rw [e]
      subst h0
      refine Out.same hr (.agg _ _ _ _ [] [] .nil (fun c hc => by cases hc)) ?_
      simp only [Instr.loadAt, Instr.sureAddr, loadVar, Sem.run_bind, Sem.run_pure', run_agg ht, hg, Result.andThen_ok, run_sizeOf hs, if_true]
      rfl
end Go.Eng
