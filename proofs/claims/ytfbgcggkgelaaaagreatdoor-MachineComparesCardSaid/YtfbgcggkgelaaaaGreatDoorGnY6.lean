/- A part of the proof that the evaluator in GnC, and the driver in GnZ, answer as the model does; no conditions. -/
import Derived.Test.YtfbgcggkgelaaaaGreatDoorGnY5
namespace Go.Eng
open Go.RowKit
variable {P : Program} {w0 : World} {H : Hp} {φ : Ph} {c : Kont} {w : World} {z : Nat → Option (List Value)}

theorem HR.early (hr : HR P w0 H φ w) (hn : H.n ≤ 32766) (B : AB) : HR P w0 (hnew H B) φ w ∧ EX H φ (hnew H B) φ := by
  have hs : (hnew H B).n = H.n + 1 := hnew_n _ _
  have hg : ∀ b, b < H.n → hget (hnew H B) b = hget H b := fun b hb => by rw [hget_hnew (by omega) (by omega), if_neg (by omega)]
  refine ⟨⟨?_, ?_, by omega, by have := hr.lim; show H.lim ≤ _; omega, hr.below, hr.gl, hr.op, ?_, ?_, hr.fo⟩, ⟨Le.refl φ, fun b x h h' => (by rw [h] at h'; cases h'), by omega, rfl, ?_, ?_, ?_, fun _ _ h => .inl h⟩⟩
  · intro b x hb
    obtain ⟨h1, h2, o, h3, h4⟩ := hr.blk b x hb
    exact ⟨by omega, h2, o, h3, by rw [hg b h1]; exact h4⟩
  · intro b b' x hb hb' k1 k2
    rw [hg b (hr.blk b x hb).1] at k1
    rw [hg b' (hr.blk b' x hb').1] at k2
    exact hr.inj b b' x hb hb' k1 k2
  · intro x C hx
    refine ⟨(hr.fz x C hx).1, fun b hb hl => ?_⟩
    rw [hg b (hr.blk b x hb).1]
    exact (hr.fz x C hx).2 b hb hl
  · intro b x hb hk
    rw [hg b (hr.blk b x hb).1] at hk ⊢
    exact hr.tl b x hb hk
  · intro b hb _
    exact hg b (by have := hr.lim; omega)
  · intro b hb _ _
    exact hg b hb
  · intro b hb _ hk
    rw [hg b hb]; exact hk
theorem EX.kill6 {b : Nat} (h : HR P w0 H φ w) (hb : b < H.n) (hl : H.lim ≤ b) (h6 : (hget H b).kind = 6) : EX H φ (hset H b noB) φ := by
  have hn := h.n
  refine ⟨Le.refl φ, fun b x h h' => (by rw [h] at h'; cases h'), Nat.le_refl _, rfl, ?_, ?_, ?_, fun _ _ h => .inl h⟩
  · intro k h1 h2; rw [hget_hset (by omega) h2, if_neg (by omega)]
  · intro k h1 h2 h3; rw [hget_hset (by omega) (by omega), if_neg (fun e => by subst e; exact h3 h6)]
  · intro k h1 h2 h3
    rw [hget_hset (by omega) h2]
    split
    · rename_i e; subst e; omega
    · exact h3
/-- the elements that append adds -/
theorem newsY_ok {e : TypeId} {sz : Nat} {y : AV} {vy : Value} {news : List AV} {H' : Hp} (hs : (szB P e).run = some sz) (hy : VR φ y vy) (hr : HR P w0 H φ w) (h : newsY P e sz H y = some (news, H')) :
    ∃ (φ' : Ph) (nvs : List Value), Frz P w0 w H φ H' φ' ∧ FZs φ'.fz (flatL news) nvs ∧ (∀ c ∈ news, cellsOk c = true ∧ (cellsOf c).length = sz) ∧ (Builtin.lenOf vy).run P w = .ok news.length w ∧
      (∀ w' : World, w'.heap = w.heap → (Builtin.firstCells sz news.length vy).run P w' = .ok nvs.toArray w') ∧ nvs.length = news.length * sz := by
  have none_ok : ∀ (ad : Option Addr) (cap : Nat), vy = .slice ad 0 cap → (Builtin.lenOf vy).run P w = .ok 0 w ∧ (∀ w' : World, w'.heap = w.heap → (Builtin.firstCells sz 0 vy).run P w' = .ok ([] : List Value).toArray w') := by
    intro ad cap hv
    subst hv
    refine ⟨rfl, fun w' _ => ?_⟩
    cases ad with
    | none => rfl
    | some a =>
      simp only [Builtin.firstCells, Nat.zero_mul]
      rfl
  unfold newsY at h
  cases h24 : nbeq y.tag 24
  · rw [h24, bi_false] at h
    cases hn : isNil y 1
    · rw [hn, bi_false] at h
      cases h25 : nbeq y.tag 25
      · rw [h25, bi_false] at h
        obtain ⟨h11, h⟩ := bi_none' h
        obtain ⟨hk1, h⟩ := bi_none' h
        obtain ⟨cells, hcl, h⟩ := om_none' h
        obtain ⟨x, cap, rfl, hx, hc1, hc2, _⟩ := hy.of_sl (beq_true.1 h11)
        obtain ⟨hcn, hcb, o, ho, hB⟩ := hr.blk _ _ hx
        obtain ⟨l, rest, t', rfl, hl, h1, _⟩ := hB.cells (beq_true.1 hk1)
        rw [dropL_eq] at hcl
        obtain ⟨hlen, rfl⟩ := takeL_some hcl
        have em : Nat.mul y.r sz = y.r * sz := rfl
        rw [em] at hlen h
        rw [List.length_drop, hl.length] at hlen
        obtain ⟨φ1, hf, hfz, hel, hec⟩ := frzE_ok 20 e y.r _ _ _ _ h sz hs φ w _ hr ((hl.drop y.q).take (y.r * sz))
        refine ⟨φ1, _, hf, hfz, hec, by rw [hel]; rfl, fun w' hw' => ?_, ?_⟩
        · rw [hel]
          exact old_cells (x := y) ho (by omega) w' hw'
        · rw [hel, List.length_take, List.length_drop]; omega
      · rw [h25, bi_true] at h
        obtain ⟨hL, h⟩ := bi_none' h
        obtain ⟨hts, h⟩ := bi_none' h
        cases h
        have htag := beq_true.1 h25
        have hts := beq_true.1 hts
        rw [takeN_eq]
        by_cases hr0 : y.r = 0
        · have key : ∃ ad cap, vy = .slice ad 0 cap := by
            cases hy <;> simp only at htag hr0 <;> first | (subst hr0; exact ⟨_, _, rfl⟩) | exact ⟨_, _, rfl⟩ | (exact absurd htag (by omega))
          obtain ⟨ad, cap, hv⟩ := key
          obtain ⟨g1, g2⟩ := none_ok ad cap hv
          rw [hr0, List.take_zero]
          exact ⟨φ, [], Frz.refl hr, .nil, fun c hc => (by cases hc), g1, g2, by simp⟩
        · obtain ⟨x, hx, g1, g2, rfl⟩ := own_of_r hy htag (by omega)
          obtain ⟨l, rest, ty, fr, ho, k1, k2, k3, k4, k5, k6, k7⟩ := hr.list hx hL
          rw [hts] at k2
          have htl : ((hget H y.q).cs.take y.r).length = y.r := by rw [List.length_take]; omega
          have hll : l.length = (hget H y.q).cs.length * sz := by rw [← k1.length, flatL_len k2]
          have hle : y.r * sz ≤ (hget H y.q).cs.length * sz := Nat.mul_le_mul_right _ (by omega)
          have hfz2 : FZs φ.fz (flatL ((hget H y.q).cs.take y.r)) (l.take (y.r * sz)) := by
            have := k1.take (y.r * sz)
            rwa [flatL_take k2] at this
          refine ⟨φ, _, Frz.refl hr, hfz2, fun a ha => k2 a (List.mem_of_mem_take ha), by rw [htl]; rfl, fun w' hw' => ?_, by rw [List.length_take, htl]; omega⟩
          rw [htl]
          simp only [Builtin.firstCells]
          rw [run_loadCells_in' (P := P) (w := w') (by rw [hw']; exact ho) (by rw [List.length_append]; omega), List.drop_zero, List.take_append_of_le_length (by omega)]
    · rw [hn, bi_true] at h
      cases h
      have := hy.isNil hn
      simp only at this
      obtain ⟨g1, g2⟩ := none_ok none 0 this
      exact ⟨φ, [], Frz.refl hr, .nil, fun c hc => (by cases hc), g1, g2, by simp⟩
  · rw [h24, bi_true] at h
    obtain ⟨hrs, h⟩ := bi_none' h
    cases h
    have hrs := beq_true.1 hrs
    have hsl := (hy.of_frz (beq_true.1 h24)).of_sl (beq_true.1 h24)
    cases hsl with
    | nil g1 g2 =>
      obtain ⟨k1, k2⟩ := none_ok none 0 rfl
      rw [g2]
      exact ⟨φ, [], Frz.refl hr, .nil, fun c hc => (by cases hc), k1, k2, by simp⟩
    | empty ad cap g1 g2 g3 =>
      obtain ⟨k1, k2⟩ := none_ok (some ad) cap rfl
      rw [g2]
      exact ⟨φ, [], Frz.refl hr, .nil, fun c hc => (by cases hc), k1, k2, by simp⟩
    | sl x off cap C l g1 g2 g3 g4 g5 g6 g7 g8 g9 =>
      rw [hrs] at g4
      have hll : l.length = y.cs.length * sz := by rw [← g3.length, flatL_len g4]
      obtain ⟨⟨ty, fr, ho⟩, _⟩ := hr.fz x C g2
      refine ⟨φ, l, Frz.refl hr, g3, g4, rfl, fun w' hw' => ?_, hll⟩
      simp only [Builtin.firstCells]
      have hle : l.length ≤ C.length - off := by
        have := congrArg List.length g8
        rw [List.length_take, List.length_drop] at this; omega
      rw [run_loadCells_in' (P := P) (w := w') (by rw [hw']; exact ho) (by omega), ← hll, g8]
section app
variable {tys : Array TypeId} {e sz bt ty : Nat} {zv : Value}
/-- a new world's block -/
theorem appOwn_new {r cap k : Nat} {base : Option Addr} {vy : Value} {olds nvs : List Value} {cs : List AV} (hA : AppT P tys e sz bt zv) (hsz : 1 ≤ sz) (hr : HR P w0 H φ w)
    (hlen : (Builtin.lenOf vy).run P w = .ok k w) (hfirst : ∀ w' : World, w'.heap = w.heap → (Builtin.firstCells sz k vy).run P w' = .ok nvs.toArray w')
    (hold : ∀ w' : World, w'.heap = w.heap → (Builtin.firstCells sz r (.slice base r cap)).run P w' = .ok olds.toArray w') (hgrow : cap < r + k) (hsm : r + k ≤ 100000)
    (hcs : FZs φ.fz (flatL cs) (olds ++ nvs)) (h1 : ∀ c ∈ cs, cellsOk c = true ∧ (cellsOf c).length = sz) (hl : cs.length = r + k) (hok : AllOk (newC H ⟨6, sz, 0, cs⟩ (fun b => ⟨25, 1, b, r + k, 0, []⟩) c)) :
    Out P w0 (fun v w' => (Builtin.append_ tys ty #[.slice base r cap, vy]).run P w = .ok v w') H φ (newC H ⟨6, sz, 0, cs⟩ (fun b => ⟨25, 1, b, r + k, 0, []⟩) c) c := by
  obtain ⟨newCap, hcap, hrun⟩ := run_app_grows (ty := ty) hA hlen hfirst hold hgrow hsm
  have hll : (olds ++ nvs).length = (r + k) * sz := by rw [← hcs.length, flatL_len h1, hl]
  refine Out.newL (w := w.drew) (o := .cells (olds ++ nvs ++ (Builtin.zeroCells zv.cells (newCap - (r + k))).toList).toArray e) (val := .slice (some ⟨w.heap.size, 0, none⟩) (r + k) newCap) newCap hr.drew ?_ ?_ hrun hok
  · intro φ' hle hk
    refine ⟨(fun h => by cases h), (fun h => by cases h), (fun h => by cases h), fun _ => .inr (.inr ⟨.inl rfl, olds ++ nvs, _, e, (0, 0), rfl, hcs.mono hle.fz, h1, fun _ => rfl, ?_, ?_, hsz⟩)⟩
    · rw [List.length_append, hll, zero_len hA.zs]
      have : φ'.k w.drew.heap.size = newCap := hk
      show _ = φ'.k _ * sz
      rw [this, ← Nat.add_mul]; congr 1; omega
    · show cs.length < 2 ^ 40
      omega
  · intro φ' hle hf hk htl
    have hk' : φ'.k w.heap.size = newCap := hk
    have htl' : φ'.tl H.n = cs.length := htl
    have := VR.own (φ := φ') H.n w.heap.size (r + k) 0 [] hf (by omega) (by omega)
    rw [hk'] at this
    exact this
theorem run_app_zero (h : AppT P tys e sz bt zv) {ad : Addr} {r cap : Nat} {vy : Value} (hr : r ≤ cap) (hlen : (Builtin.lenOf vy).run P w = .ok 0 w) (hfirst : (Builtin.firstCells sz 0 vy).run P w = .ok ([] : List Value).toArray w) :
    (Builtin.append_ tys ty #[.slice (some ad) r cap, vy]).run P w = .ok (.slice (some ad) r cap) w := by
  obtain ⟨t, h0, hu⟩ := h.t0
  obtain ⟨t', d', h0', hu', hd'⟩ := h.t1
  have hnot := notInt hd'
  have h1 : (#[Value.slice (some ad) r cap, vy] : Array Value)[0]? = some (.slice (some ad) r cap) := rfl
  have h2 : (#[Value.slice (some ad) r cap, vy] : Array Value)[1]? = some vy := rfl
  have hst : ∀ a : Addr, (storeCells a ([] : List Value)).run P w = .ok () w := fun a => rfl
  unfold Builtin.append_
  simp only [h0, h0', h1, h2, Sem.run_bind, run_und hu, run_und hu', hnot, Result.andThen_ok, run_sizeOf h.hsz, hlen, Bool.false_eq_true, if_false, Nat.add_zero, hr, if_true, hfirst, Bool.not_false, hst, Sem.run_pure', Bool.not_true]
/-- onto nothing -/
theorem appVirt_out {p : Nat} {base : Option Addr} {vy : Value} {news : List AV} {nvs : List Value} (hA : AppT P tys e sz bt zv) (hp : (p = 0 ∧ base = none) ∨ (p = 2 ∧ ∃ a, base = some a)) (hr : HR P w0 H φ w)
    (hfz : FZs φ.fz (flatL news) nvs) (hel : ∀ c ∈ news, cellsOk c = true ∧ (cellsOf c).length = sz) (hlen : (Builtin.lenOf vy).run P w = .ok news.length w) (hfirst : ∀ w' : World, w'.heap = w.heap → (Builtin.firstCells sz news.length vy).run P w' = .ok nvs.toArray w')
    (hok : AllOk (appOwn sz p [] news H c)) : Out P w0 (fun v w' => (Builtin.append_ tys ty #[.slice base 0 0, vy]).run P w = .ok v w') H φ (appOwn sz p [] news H c) c := by
  refine Out.bi hok fun hsz hok => Out.bi hok fun hsm hok => ?_
  have hsz := ble_true.1 hsz
  have hsm : 0 + news.length ≤ 100000 := by have := ble_true.1 hsm; rw [lenL_eq, lenL_eq] at this; exact this
  rw [lenL_eq, lenL_eq] at hok ⊢
  have e0 : appL [] news = news := appL_eq _ _
  rw [e0] at hok ⊢
  have e1 : Nat.add ([] : List AV).length news.length = 0 + news.length := rfl
  rw [e1] at hok ⊢
  by_cases hm : news.length = 0
  · have hn0 : news = [] := List.length_eq_zero_iff.1 hm
    subst hn0
    have hnv : nvs = [] := List.length_eq_zero_iff.1 (by rw [← hfz.length]; rfl)
    subst hnv
    refine Out.bi hok fun hn _ => ?_
    obtain ⟨g1, g2⟩ := hr.early (ble_true.1 hn) ⟨6, sz, 0, []⟩
    rcases hp with ⟨rfl, rfl⟩ | ⟨rfl, a, rfl⟩
    · exact ⟨_, _, φ, .slice none 0 0, w, fun _ h => h, run_app_nil hA hlen (hfirst w rfl), .ownn _ _ _, g1, g2⟩
    · exact ⟨_, _, φ, .slice (some a) 0 0, w, fun _ h => h, run_app_zero hA (Nat.le_refl _) hlen (hfirst w rfl), .owne _ _ _ _, g1, g2⟩
  · have eb : ∀ b : Nat, (⟨25, bi (nbeq news.length 0) p 1, b, 0 + news.length, 0, []⟩ : AV) = ⟨25, 1, b, 0 + news.length, 0, []⟩ := fun b => by rw [beq_false.2 hm, bi_false]
    simp only [eb] at hok ⊢
    exact appOwn_new (olds := []) (r := 0) (cap := 0) hA hsz hr hlen hfirst (fun w' _ => by
      cases base with
      | none => rfl
      | some a => simp only [Builtin.firstCells, Nat.zero_mul]; rfl) (by omega) hsm hfz hel (by omega) hok
theorem appendY_out {x y : AV} {vx vy : Value} (hA : AppT P tys e sz bt zv) (hx : VR φ x vx) (hy : VR φ y vy) (hr : HR P w0 H φ w) (hok : AllOk ((appendY P e sz bt).run x y H c)) :
    Out P w0 (fun v w' => (Builtin.append_ tys ty #[vx, vy]).run P w = .ok v w') H φ ((appendY P e sz bt).run x y H c) c := by
  refine Out.om hok fun zz hz hok => ?_
  obtain ⟨news, H1⟩ := zz
  obtain ⟨φ1, nvs, hf, hfz, hel, hlen, hfirst, hnl⟩ := newsY_ok hA.hsz hy hr hz
  have hx1 := hx.mono hf.ex.keep
  refine Out.trans ?_ hf.ex
  have hr1 := hf.hr
  refine Out.bi2 hok (fun h25 hok => Out.bi hok fun h6 hok => Out.bi hok fun hts hok => Out.bi hok fun hlim hok => ?_) fun _ hok => Out.bi2 hok (fun h24 hok => Out.bi hok fun hs1 hok => Out.bi hok fun hl0 hok => ?_) fun _ hok => Out.bi hok fun hn hok => ?_
  · have htag := beq_true.1 h25
    have h6' : (hget H1 x.q).kind = 6 := beq_true.1 h6
    have hts : (hget H1 x.q).t = sz := beq_true.1 hts
    obtain ⟨hlim, hin⟩ := bi_and.1 hlim
    have hlim : H1.lim ≤ x.q := ble_true.1 hlim
    have hin : x.q < H1.n := ble_true.1 hin
    rw [takeN_eq] at hok ⊢
    refine Out.trans ?_ (EX.kill6 hr1 hin hlim h6')
    have hrk := hr1.kill hin
    by_cases hp1 : x.p = 1
    · obtain ⟨blk, hb, g1, g2, rfl⟩ := hx1.of_own htag hp1
      have hL : isL (hget H1 x.q) = true := by unfold isL; rw [h6]; rfl
      obtain ⟨l, rest, ty', fr, ho, k1, k2, k3, k4, k5, k6, k7⟩ := hr1.list hb hL
      have := k3 h6'; subst this
      rw [hts] at k2 k4 k6
      have htl : ((hget H1 x.q).cs.take x.r).length = x.r := by rw [List.length_take]; omega
      have hll : l.length = (hget H1 x.q).cs.length * sz := by rw [← k1.length, flatL_len k2]
      have hle : x.r * sz ≤ (hget H1 x.q).cs.length * sz := Nat.mul_le_mul_right _ (by omega)
      have hcs : FZs φ1.fz (flatL ((hget H1 x.q).cs.take x.r ++ news)) (l.take (x.r * sz) ++ nvs) := by
        rw [flatL_append, ← flatL_take k2]
        exact (k1.take _).append hfz
      have hel2 : ∀ c ∈ (hget H1 x.q).cs.take x.r ++ news, cellsOk c = true ∧ (cellsOf c).length = sz := fun a ha => by
        rcases List.mem_append.1 ha with h | h
        · exact k2 a (List.mem_of_mem_take h)
        · exact hel a h
      have hlen2 : ((hget H1 x.q).cs.take x.r ++ news).length = x.r + news.length := by rw [List.length_append, htl]
      have hold : ∀ w' : World, w'.heap = w.heap → (Builtin.firstCells sz x.r (.slice (some ⟨blk, 0, none⟩) x.r (φ1.k blk))).run P w' = .ok (l.take (x.r * sz)).toArray w' := fun w' hw' => by
        simp only [Builtin.firstCells]
        rw [run_loadCells_in (P := P) (w := w') (by rw [hw']; exact ho) (by rw [List.length_append]; omega), List.drop_zero, List.take_append_of_le_length (by omega)]
      refine Out.bi hok fun hsz hok => Out.bi hok fun hsm hok => ?_
      have hsz := ble_true.1 hsz
      have hsm : x.r + news.length ≤ 100000 := by
        have := ble_true.1 hsm; rw [lenL_eq, lenL_eq, htl] at this; exact this
      rw [lenL_eq, lenL_eq, htl, hp1] at hok ⊢
      have eb : ∀ b : Nat, (⟨25, bi (nbeq news.length 0) 1 1, b, Nat.add x.r news.length, 0, []⟩ : AV) = ⟨25, 1, b, x.r + news.length, 0, []⟩ := fun b => by cases nbeq news.length 0 <;> rfl
      simp only [eb, appL_eq] at hok ⊢
      by_cases hfit : x.r + news.length ≤ φ1.k blk
      · have hone : ∀ v ∈ nvs, v.oneCell' = true := by
          have hvrs : VRs φ1 (flatL news) nvs := hfz.vrs
          refine one_of hvrs fun a ha => ?_
          obtain ⟨i, hi⟩ := List.mem_iff_getElem?.1 ha
          obtain ⟨v, _, hv⟩ := hfz.get hi
          exact hv.one
        have hml : (x.r + news.length) * sz ≤ φ1.k blk * sz := Nat.mul_le_mul_right _ hfit
        rw [Nat.add_mul] at hml
        have hlr := k4
        rw [List.length_append] at hlr
        have hst := run_storeCells_at (P := P) blk (0 + x.r * sz) ty' nvs 0 (l ++ rest).toArray w ho (by rw [List.size_toArray, List.length_append]; omega) hone
        have hrun := run_app_fits (ty := ty) hA hlen (hfirst w rfl) hfit hst
        have hw' : ((l ++ rest).toArray).toList.take (0 + x.r * sz + 0) ++ nvs ++ ((l ++ rest).toArray).toList.drop (0 + x.r * sz + 0 + nvs.length) = l.take (x.r * sz) ++ nvs ++ (l ++ rest).drop (x.r * sz + news.length * sz) := by
          simp only [Nat.zero_add, Nat.add_zero, hnl]
          rw [List.take_append_of_le_length (by omega)]
        rw [hw'] at hrun
        obtain ⟨s1, s2⟩ : (w.setRow blk (l.take (x.r * sz) ++ nvs ++ (l ++ rest).drop (x.r * sz + news.length * sz)).toArray).heap[blk]? = some (.cells (l.take (x.r * sz) ++ nvs ++ (l ++ rest).drop (x.r * sz + news.length * sz)).toArray ty') ∧ ∀ j, j ≠ blk → (w.setRow blk (l.take (x.r * sz) ++ nvs ++ (l ++ rest).drop (x.r * sz + news.length * sz)).toArray).heap[j]? = w.heap[j]? := by
          refine ⟨setRow_heap w blk _ _ ty' (0, 0) ho, fun j hj => ?_⟩
          simp [World.setRow, Array.getElem?_modify, Ne.symm hj]
        have hn1 := hr1.n
        have hdead : ∀ b, φ1 b = some blk → (hget (hset H1 x.q noB) b).kind = 0 := by
          intro b hb'
          have hbl := (hr1.blk _ _ hb').1
          rw [hget_hset (by omega) (by omega)]
          by_cases he : x.q = b
          · rw [if_pos he]; rfl
          · rw [if_neg he]
            cases hz : decide ((hget H1 b).kind = 0) with
            | true => exact of_decide_eq_true hz
            | false => exact absurd (hr1.inj _ _ _ hb hb' (by omega) (of_decide_eq_false hz)) he
        have hbase := (hr1.blk _ _ hb).2.1 hlim
        have hnf := hr1.live hb hlim (by omega) (by omega)
        have hr2 := hrk.store hdead hnf hbase s2 ⟨_, s1⟩ (by simp [World.setRow]) rfl rfl rfl
        refine Out.alias (val := .slice (some ⟨blk, 0, none⟩) (x.r + news.length) (φ1.k blk)) hr2 hdead (.inl hnf) hbase s1 ?_ ?_ hrun hok
        · refine ⟨(fun h => by cases h), (fun h => by cases h), (fun h => by cases h), fun _ => .inr (.inr ⟨.inl rfl, l.take (x.r * sz) ++ nvs, (l ++ rest).drop (x.r * sz + news.length * sz), ty', (0, 0), rfl, hcs, hel2, fun _ => rfl, ?_, ?_, hsz⟩)⟩
          · show _ = φ1.k blk * sz
            rw [← k4]
            simp only [List.length_append, List.length_take, List.length_drop, hnl]
            omega
          · show (_ : List AV).length < 2 ^ 40
            rw [hlen2]; omega
        · intro φ' hle hf' hkk htl'
          have htl2 : φ'.tl H1.n = x.r + news.length := by
            have : φ'.tl H1.n = ((hget H1 x.q).cs.take x.r ++ news).length := htl'
            rw [this, hlen2]
          have := VR.own (φ := φ') H1.n blk (x.r + news.length) 0 [] hf' (by omega) (by omega)
          rw [hkk] at this
          exact this
      · exact appOwn_new hA hsz hrk hlen hfirst hold (by omega) hsm hcs hel2 hlen2 hok
    · have key : ∃ base, vx = .slice base 0 0 ∧ x.r = 0 ∧ ((x.p = 0 ∧ base = none) ∨ (x.p = 2 ∧ ∃ a, base = some a)) := by
        cases hx <;> first | exact absurd rfl hp1 | exact ⟨_, rfl, rfl, .inl ⟨rfl, rfl⟩⟩ | exact ⟨_, rfl, rfl, .inr ⟨rfl, _, rfl⟩⟩ | (simp only at htag; omega)
      obtain ⟨base, rfl, hr0, hp⟩ := key
      rw [hr0, List.take_zero] at hok ⊢
      exact appVirt_out hA hp hrk hfz hel hlen hfirst hok
  · have hl0' := beq_true.1 hl0
    rw [lenL_eq] at hl0'
    have hs1 := beq_true.1 hs1
    have htag := beq_true.1 h24
    cases (hx1.of_frz htag).of_sl htag with
    | nil g1 g2 =>
      rw [g1] at hok ⊢
      exact appVirt_out hA (.inl ⟨rfl, rfl⟩) hr1 hfz hel hlen hfirst hok
    | empty ad cap g1 g2 g3 =>
      have : cap = 0 := by rcases g3 with h | h <;> omega
      subst this
      rw [g1] at hok ⊢
      exact appVirt_out hA (.inr ⟨rfl, _, rfl⟩) hr1 hfz hel hlen hfirst hok
    | sl => omega
  · have := hx1.isNil hn
    simp only at this; subst this
    exact appVirt_out hA (.inl ⟨rfl, rfl⟩) hr1 hfz hel hlen hfirst hok
end app
end Go.Eng
