/- A part of the proof that the evaluator in EngC answers as the model does; no conditions. -/
import Derived.Test.YtnghikjbjlmpaaaGreatDoorEngS12
namespace Go.Eng
open Go.RowKit
variable {P : Program} {w0 : World} {H : Hp} {φ : Ph} {c : Kont} {w : World}

/-! ### maps -/
def KeyT (P : Program) (kt : TypeId) (n : Nat) : Prop := (∃ k, (tyB P kt).run = some (.int k) ∧ n = kCode k) ∨ ((tyB P kt).run = some .string ∧ n = 9)
theorem keyTag_ok {kt : TypeId} {n : Nat} (h : keyTag P kt = some n) : KeyT P kt n := by
  unfold keyTag at h
  split at h
  · rename_i k hk; cases h; exact .inl ⟨k, hk, rfl⟩
  · rename_i hk; cases h; exact .inr ⟨hk, rfl⟩
  · cases h
theorem checkKey_ok {kt : TypeId} {n m : Nat} {b : Bool} (h : KeyT P kt n) (v : Value) : (Instr.checkKey b (m + 1) kt v).run P w = .ok () w := by
  rcases h with ⟨k, hk, _⟩ | ⟨hk, _⟩ <;> simp only [Instr.checkKey, Sem.run_bind, run_und hk, Result.andThen_ok] <;> rfl
theorem same_ok {kt : TypeId} {n : Nat} {d : TypeDesc} (h : KeyT P kt n) (hd : (tyB P kt).run = some d) {a b : AV} {va vb : Value} (ha : VR φ a va) (hb : VR φ b vb) (ta : a.tag = n) (tb : b.tag = n) : Instr.sameNow d va vb = some (sameK b a) := by
  rcases h with ⟨k, hk, rfl⟩ | ⟨hk, rfl⟩ <;> rw [hk] at hd <;> cases hd
  · obtain ⟨rfl, l1, q1⟩ := ha.of_int (kCode_lt k) ta
    obtain ⟨rfl, l2, q2⟩ := hb.of_int (kCode_lt k) tb
    have e : (valI (kCode k) a.p == valI (kCode k) b.p) = Nat.beq b.p a.p := by
      rw [Bool.eq_iff_iff, beq_iff_eq, beq_true, eq_val (kCode_lt k) l1 l2]; exact eq_comm
    simp only [Instr.sameNow, if_true, e, sameK, q1, q2]
    cases Nat.beq b.p a.p <;> rfl
  · obtain ⟨p, rfl, e1, q1⟩ := ha.of_str ta
    obtain ⟨q, rfl, e2, q2⟩ := hb.of_str tb
    have : ((⟨p.toArray⟩ : ByteArray) == ⟨q.toArray⟩) = decide (q = p) := by
      show (p.toArray == q.toArray) = _
      rw [Bool.eq_iff_iff, beq_iff_eq, decide_eq_true_eq]; simp [eq_comm]
    simp only [Instr.sameNow, this, ← bytes_eq, sameK, e1, e2, q1, q2]
    cases Nat.beq q.length p.length <;> cases Nat.beq (bytesN q) (bytesN p) <;> rfl
theorem findE_cons (k e : AV) (as : List AV) : findE k (e :: as) = bi (sameK (nthL e.cs 0) k) (some (nthL e.cs 1)) (findE k as) := rfl
theorem updE_cons (k v e : AV) (as : List AV) : updE k v (e :: as) = bi (sameK (nthL e.cs 0) k) (entV e.p k v :: as) (e :: updE k v as) := rfl
theorem delE_cons (k e : AV) (as : List AV) : delE k (e :: as) = bi (sameK (nthL e.cs 0) k) as (e :: delE k as) := rfl
theorem find_ok {kt : TypeId} {n ck : Nat} {d : TypeDesc} (h : KeyT P kt n) (hd : (tyB P kt).run = some d) {k : AV} {ek : Value} (hk : VR φ k ek) (tk : k.tag = n) {as : List AV} {es : List MapEntry} (he : Ents φ n ck as es) : ∀ i,
    (findE k as = none ∧ Instr.findNow d ek es i = some none) ∨
    ∃ v j ev ee, findE k as = some v ∧ Instr.findNow d ek es i = some (some (i + j, ev)) ∧ es[j]? = some ee ∧ ee.val = ev ∧ VR φ v ev ∧ Instr.sameNow d ek ee.key = some true ∧
      (∀ x ex, VR φ x ex → Ents φ n ck (updE k x as) (es.modify j fun e => { e with key := ek, val := ex })) ∧ Ents φ n ck (delE k as) (es.eraseIdx j) := by
  induction he with
  | nil => intro i; exact .inl ⟨rfl, rfl⟩
  | @cons b q r s k' v' ek' ev' as es h1 h2 h3 h4 h5 ih =>
    intro i
    have hs := same_ok h hd hk h1 tk h2
    rw [findE_cons]
    have n0 : nthL [k', v'] 0 = k' := rfl
    have n1 : nthL [k', v'] 1 = v' := rfl
    rw [n0, n1]
    cases hb : sameK k' k
    · rw [hb] at hs
      rcases ih (i + 1) with ⟨f1, f2⟩ | ⟨v, j, ev, ee, f1, f2, f3, f4, f5, f6, f7, f8⟩
      · left
        refine ⟨f1, ?_⟩
        simp only [Instr.findNow, hs]; exact f2
      · right
        refine ⟨v, j + 1, ev, ee, f1, ?_, by simpa using f3, f4, f5, f6, ?_, ?_⟩
        · simp only [Instr.findNow, hs, f2]; congr 2; simp; omega
        · intro x ex hx
          rw [updE_cons, n0, hb]
          exact .cons h1 h2 h3 h4 (f7 x ex hx)
        · rw [delE_cons, n0, hb]
          exact .cons h1 h2 h3 h4 f8
    · rw [hb] at hs
      right
      refine ⟨v', 0, ev', ⟨ek', ev', b⟩, rfl, by simp only [Instr.findNow, hs]; rfl, rfl, rfl, h3, hs, ?_, ?_⟩
      · intro x ex hx
        rw [updE_cons, n0, hb]
        exact .cons hk tk hx h4 h5
      · rw [delE_cons, n0, hb]
        exact h5
theorem run_findKey {kt : TypeId} {d : TypeDesc} (hd : (tyB P kt).run = some d) {k : Value} {es : List MapEntry} {r : Option (Nat × Value)} (h : Instr.findNow d k es 0 = some r) : (Instr.findKey kt k es).run P w = .ok r w := by
  simp only [Instr.findKey, Sem.run_bind, run_und hd, Result.andThen_ok, h]; rfl
theorem KeyT.desc {kt : TypeId} {n : Nat} (h : KeyT P kt n) : ∃ d, (tyB P kt).run = some d := by
  rcases h with ⟨k, hk, _⟩ | ⟨hk, _⟩ <;> exact ⟨_, hk⟩
theorem run_getMap {x : Nat} {es : List MapEntry} {ck : Nat} (h : w.heap[x]? = some (.map es.toArray ck)) : (getObj x).run P w = .ok (.map es.toArray ck) w := by
  simp only [getObj, Sem.run, h]
theorem vr_tup2 {a b : AV} {va vb : Value} (ha : VR φ a va) (hb : VR φ b vb) : VR φ (tupV [a, b]) (.tuple #[va, vb]) := .tup 0 0 0 0 [a, b] [va, vb] (.cons ha (.cons hb .nil))
theorem look_out {t kt e : TypeId} {n : Nat} {z : AV} {ok : Bool} {m k : AV} {vm vk : Value} (ht : (tyB P t).run = some (.map kt e)) (hk : KeyT P kt n) (hz : (zeB P e).run = some z) (hm : VR φ m vm) (hvk : VR φ k vk) (hr : HR w0 H φ w)
    (hok : AllOk ((lookC n z ok).run m k H c)) : Out w0 (fun v w' => (Instr.lookup t vm vk ok).run P w = .ok v w') H φ ((lookC n z ok).run m k H c) c := by
  obtain ⟨i, zv, hi, hzv, hzr, _⟩ := ze_ok hz
  obtain ⟨d, hd⟩ := hk.desc
  have fin : ∀ (o : Option AV) (r : Option (Nat × Value)), ((o = none ∧ r = none) ∨ ∃ v j ev, o = some v ∧ r = some (j, ev) ∧ VR φ v ev) →
      (∀ (val : Value) (b : Bool), ((r = none ∧ val = zv ∧ b = false) ∨ ∃ j, r = some (j, val) ∧ b = true) →
        (Instr.lookup t vm vk ok).run P w = .ok (if ok then .tuple #[val, .bool b] else val) w) →
      Out w0 (fun v w' => (Instr.lookup t vm vk ok).run P w = .ok v w') H φ (c H (lookV ok o z)) c := by
    intro o r ho hrun
    rcases ho with ⟨rfl, rfl⟩ | ⟨v, j, ev, rfl, rfl, hv⟩
    · have := hrun zv false (.inl ⟨rfl, rfl, rfl⟩)
      cases ok
      · exact Out.same hr (hzr φ) this
      · exact Out.same hr (vr_tup2 (hzr φ) (vr_bool false)) this
    · have := hrun ev true (.inr ⟨j, rfl, rfl⟩)
      cases ok
      · exact Out.same hr hv this
      · exact Out.same hr (vr_tup2 hv (vr_bool true)) this
  have hck := fun b => checkKey_ok (P := P) (w := w) (m := 9999) (b := b) hk vk
  refine Out.bi2 hok (fun g0 hok => Out.bi hok fun g1 hok => Out.bi hok fun g2 hok => Out.bi hok fun g3 _ => ?_) fun _ hok => Out.bi hok fun g0 _ => ?_
  · obtain ⟨x, rfl, hx⟩ := hm.of_map (beq_true.1 g0)
    obtain ⟨_, _, o, ho, hB⟩ := hr.blk _ _ hx
    obtain ⟨es, rfl, hes, _⟩ := hB.map (beq_true.1 g1)
    rw [beq_true.1 g2] at hes
    have hrun : ∀ (r : Option (Nat × Value)), (Instr.findKey kt vk es).run P w = .ok r w → ∀ (val : Value) (b : Bool), ((r = none ∧ val = zv ∧ b = false) ∨ ∃ j, r = some (j, val) ∧ b = true) →
        (Instr.lookup t (.map (some x)) vk ok).run P w = .ok (if ok then .tuple #[val, .bool b] else val) w := by
      intro r hf val b hmid
      unfold Instr.lookup
      simp only [Sem.run_bind, run_und ht, Result.andThen_ok, run_getMap ho, Sem.run_pure']
      rw [show (10000 : Nat) = 9999 + 1 from rfl, hck]
      simp only [Result.andThen_ok, hf]
      rcases hmid with ⟨rfl, rfl, rfl⟩ | ⟨j, rfl, rfl⟩
      · simp only [Sem.run_bind, run_zero hi hzv, Result.andThen_ok, Sem.run_pure']
      · simp only [Sem.run_bind, Result.andThen_ok, Sem.run_pure']
    rcases find_ok hk hd hvk (beq_true.1 g3) hes 0 with ⟨f1, f2⟩ | ⟨v, j, ev, ee, f1, f2, _, _, f5, _⟩
    · exact fin _ none (.inl ⟨f1, rfl⟩) (hrun _ (run_findKey hd f2))
    · exact fin _ _ (.inr ⟨v, _, ev, f1, rfl, f5⟩) (hrun _ (run_findKey hd f2))
  · have := hm.isNil g0; simp only at this; subst this
    refine fin none none (.inl ⟨rfl, rfl⟩) fun val b hmid => ?_
    have hf := run_findKey (P := P) (w := w) hd (k := vk) (es := []) (r := none) rfl
    unfold Instr.lookup
    simp only [Sem.run_bind, run_und ht, Result.andThen_ok, Sem.run_pure']
    rw [show (10000 : Nat) = 9999 + 1 from rfl, hck]
    simp only [Result.andThen_ok, hf]
    rcases hmid with ⟨_, rfl, rfl⟩ | ⟨j, h, _⟩
    · simp only [Sem.run_bind, run_zero hi hzv, Result.andThen_ok, Sem.run_pure']
    · cases h
theorem Ents.snoc {n ck b : Nat} {as : List AV} {es : List MapEntry} (he : Ents φ n ck as es) {k v : AV} {ek ev : Value} (hk : VR φ k ek) (tk : k.tag = n) (hv : VR φ v ev) (hb : ck ≤ b) : Ents φ n (b + 1) (as ++ [entV b k v]) (es ++ [⟨ek, ev, b⟩]) := by
  induction he with
  | nil => exact .cons hk tk hv (by omega) .nil
  | cons h1 h2 h3 h4 _ ih => exact .cons h1 h2 h3 (by omega) ih
theorem sameBits_ok {d : TypeDesc} {a b : Value} (h : Instr.sameNow d a b = some true) : Instr.sameBits 10000 b a = true := by
  cases d <;> cases a <;> cases b <;> simp only [Instr.sameNow, reduceCtorEq, Option.some.injEq] at h
  case int.int.int k x y z u =>
    split at h
    · rename_i hk; subst hk
      have := Option.some.inj h
      rw [beq_iff_eq] at this; subst this
      simp [Instr.sameBits]
    · cases h
  case bool.bool.bool => rw [beq_iff_eq] at h; subst h; simp [Instr.sameBits]
  case string.string.string x y =>
    have : (x.data == y.data) = true := h
    rw [beq_iff_eq] at this
    have e : x = y := ByteArray.ext this
    subst e
    show (x.data == x.data) = true
    simp
theorem set_heap {x : Nat} {o : Obj} (o' : Obj) (h : w.heap[x]? = some o) : ({ w with heap := w.heap.setIfInBounds x o' } : World).heap[x]? = some o' ∧ (∀ k, k ≠ x → ({ w with heap := w.heap.setIfInBounds x o' } : World).heap[k]? = w.heap[k]?) ∧ ({ w with heap := w.heap.setIfInBounds x o' } : World).heap.size = w.heap.size := by
  have hlt := (Array.getElem?_eq_some_iff.1 h).1
  refine ⟨by simp [hlt], fun k hk => ?_, by simp⟩
  simp [Array.getElem?_setIfInBounds, Ne.symm hk]
theorem run_setObj {x : Nat} {o : Obj} (o' : Obj) (h : w.heap[x]? = some o) (hc : ∀ a b f, o ≠ .cells a b f) : (setObj x o').run P w = .ok () { w with heap := w.heap.setIfInBounds x o' } := by
  cases o <;> first | exact absurd rfl (hc _ _ _) | simp [setObj, Sem.run, h]
theorem mapUpd_out {t kt e : TypeId} {n : Nat} {m k x : AV} {vm vk vx : Value} (ht : (tyB P t).run = some (.map kt e)) (hk : KeyT P kt n) (hm : VR φ m vm) (hvk : VR φ k vk) (hx : VR φ x vx) (hr : HR w0 H φ w)
    (hok : AllOk ((mapUpdC n).run m k x H c)) : Out w0 (fun v w' => (Instr.mapUpdate t vm vk vx).run P w = .ok () w' ∧ v = undef) H φ ((mapUpdC n).run m k x H c) c := by
  obtain ⟨d, hd⟩ := hk.desc
  refine Out.bi hok fun g0 hok => Out.bi hok fun g1 hok => Out.bi hok fun g2 hok => Out.bi hok fun g3 hok => ?_
  obtain ⟨y, rfl, hy⟩ := hm.of_map (beq_true.1 g0)
  obtain ⟨_, _, o, ho, hB⟩ := hr.blk _ _ hy
  obtain ⟨es, rfl, hes, hkt⟩ := hB.map (beq_true.1 g1)
  have g2' := beq_true.1 g2
  rw [g2'] at hes hkt
  have hck := checkKey_ok (P := P) (w := w) (m := 9999) (b := false) hk vk
  have hk2 : (hget H m.p).kind ≠ 0 := by rw [beq_true.1 g1]; decide
  have base : ∀ (rest : Sem Unit) (r : Option (Nat × Value)), (Instr.findKey kt vk es).run P w = .ok r w →
      (match r with | some (i, _) => (do let key ← Instr.keyThatStays (((es.toArray[i]?).map (·.key)).getD vk) vk; setObj y (.map (es.toArray.modify i fun e => { e with key, val := vx }) (hget H m.p).e) : Sem Unit) | none => setObj y (.map (es.toArray.push { key := vk, val := vx, born := (hget H m.p).e }) ((hget H m.p).e + 1))) = rest →
      (Instr.mapUpdate t (.map (some y)) vk vx).run P w = rest.run P w := by
    intro rest r hf hrest
    unfold Instr.mapUpdate
    simp only [Sem.run_bind, run_und ht, Result.andThen_ok, run_getMap ho]
    rw [show (10000 : Nat) = 9999 + 1 from rfl, hck]
    simp only [Result.andThen_ok, hf]
    rw [← hrest]
    cases r <;> rfl
  rcases find_ok hk hd hvk (beq_true.1 g3) hes 0 with ⟨f1, f2⟩ | ⟨v, j, ev, ee, f1, f2, f3, f4, f5, f6, f7, _⟩
  · have hset : mapSet (hget H m.p) k x = ⟨2, (hget H m.p).t, Nat.succ (hget H m.p).e, appL (hget H m.p).cs [entV (hget H m.p).e k x]⟩ := by unfold mapSet; rw [f1]; rfl
    rw [hset] at hok ⊢
    obtain ⟨s1, s2, s3⟩ := set_heap (w := w) (.map (es ++ [(⟨vk, vx, (hget H m.p).e⟩ : MapEntry)]).toArray ((hget H m.p).e + 1)) ho
    refine Out.set (x := y) (w' := { w with heap := w.heap.setIfInBounds y (.map (es ++ [(⟨vk, vx, (hget H m.p).e⟩ : MapEntry)]).toArray ((hget H m.p).e + 1)) }) hr hy hk2 ?_ (.ud _ _ _ _ _) ⟨?_, rfl⟩ s1 s2 s3 rfl rfl rfl hok
    · refine ⟨(fun h => by cases h), fun _ => ⟨_, rfl, ?_, by rw [g2']; exact hkt⟩, (fun h => by cases h)⟩
      show Ents φ (hget H m.p).t (Nat.succ (hget H m.p).e) (appL _ _) _
      rw [appL_eq, g2']
      exact hes.snoc hvk (beq_true.1 g3) hx (Nat.le_refl _)
    · rw [base _ none (run_findKey hd f2) rfl, run_setObj _ ho (fun _ _ _ h => by cases h)]
      simp
  · have hset : mapSet (hget H m.p) k x = ⟨2, (hget H m.p).t, (hget H m.p).e, updE k x (hget H m.p).cs⟩ := by unfold mapSet; rw [f1]; rfl
    rw [hset] at hok ⊢
    obtain ⟨s1, s2, s3⟩ := set_heap (w := w) (.map (es.modify j fun e => { e with key := vk, val := vx }).toArray (hget H m.p).e) ho
    refine Out.set (x := y) (w' := { w with heap := w.heap.setIfInBounds y (.map (es.modify j fun e => { e with key := vk, val := vx }).toArray (hget H m.p).e) }) hr hy hk2 ?_ (.ud _ _ _ _ _) ⟨?_, rfl⟩ s1 s2 s3 rfl rfl rfl hok
    · refine ⟨(fun h => by cases h), fun _ => ⟨_, rfl, ?_, by rw [g2']; exact hkt⟩, (fun h => by cases h)⟩
      show Ents φ (hget H m.p).t (hget H m.p).e (updE k x _) _
      rw [g2']
      exact f7 x vx hx
    · rw [base _ _ (run_findKey hd f2) rfl]
      have hkey : (Instr.keyThatStays (((es.toArray[0 + j]?).map (·.key)).getD vk) vk).run P w = .ok vk w := by
        have : ((es.toArray[0 + j]?).map (·.key)).getD vk = ee.key := by simp [f3]
        rw [this]
        unfold Instr.keyThatStays
        rw [if_pos (sameBits_ok f6)]; rfl
      simp only [Sem.run_bind, hkey, Result.andThen_ok]
      rw [run_setObj _ ho (fun _ _ _ h => by cases h)]
      simp
theorem del_out {t kt e : TypeId} {n : Nat} {ty : TypeId} {tys : Array TypeId} {m k : AV} {vm vk : Value} (ht0 : tys[0]? = some t) (ht : (tyB P t).run = some (.map kt e)) (hk : KeyT P kt n) (hm : VR φ m vm) (hvk : VR φ k vk) (hr : HR w0 H φ w)
    (hok : AllOk ((delC n).run m k H c)) : Out w0 (fun v w' => (Builtin.delete_ tys ty #[vm, vk]).run P w = .ok v w') H φ ((delC n).run m k H c) c := by
  obtain ⟨d, hd⟩ := hk.desc
  refine Out.bi hok fun g0 hok => Out.bi hok fun g1 hok => Out.bi hok fun g2 hok => Out.bi hok fun g3 hok => ?_
  obtain ⟨y, rfl, hy⟩ := hm.of_map (beq_true.1 g0)
  obtain ⟨_, _, o, ho, hB⟩ := hr.blk _ _ hy
  obtain ⟨es, rfl, hes, hkt⟩ := hB.map (beq_true.1 g1)
  have g2' := beq_true.1 g2
  rw [g2'] at hes hkt
  have hck := checkKey_ok (P := P) (w := w) (m := 9999) (b := es.toArray.isEmpty) hk vk
  have hk2 : (hget H m.p).kind ≠ 0 := by rw [beq_true.1 g1]; decide
  have h1 : (#[Value.map (some y), vk] : Array Value)[0]? = some (.map (some y)) := rfl
  have h2 : (#[Value.map (some y), vk] : Array Value)[1]? = some vk := rfl
  have base : ∀ (r : Option (Nat × Value)), (Instr.findKey kt vk es).run P w = .ok r w →
      (Builtin.delete_ tys ty #[.map (some y), vk]).run P w = ((match r with | some (i, _) => setObj y (.map (es.toArray.eraseIdxIfInBounds i) (hget H m.p).e) | none => setObj y (.map es.toArray (hget H m.p).e) : Sem Unit).run P w).andThen fun _ w' => .ok (.tuple #[]) w' := by
    intro r hf
    unfold Builtin.delete_
    simp only [ht0, h1, h2, Sem.run_bind, run_und ht, Result.andThen_ok, run_getMap ho]
    rw [show (10000 : Nat) = 9999 + 1 from rfl, hck]
    simp only [Result.andThen_ok, hf]
    cases r <;> simp only [Sem.run_bind, Sem.run_pure']
  have hv0 : VR φ (tupV []) (.tuple #[]) := .tup 0 0 0 0 [] [] .nil
  rcases find_ok hk hd hvk (beq_true.1 g3) hes 0 with ⟨f1, f2⟩ | ⟨v, j, ev, ee, f1, f2, f3, f4, f5, f6, _, f8⟩
  · have hdel : delE k (hget H m.p).cs = (hget H m.p).cs := by
      clear hok f2 hes
      revert f1
      generalize (hget H m.p).cs = as
      induction as with
      | nil => intro _; rfl
      | cons a as ih =>
        intro f1
        rw [findE_cons] at f1
        rw [delE_cons]
        cases hs : sameK (nthL a.cs 0) k
        · rw [hs, bi_false] at f1
          rw [bi_false, ih f1]
        · rw [hs] at f1; cases f1
    obtain ⟨s1, s2, s3⟩ := set_heap (w := w) (.map es.toArray (hget H m.p).e) ho
    refine Out.set (x := y) (w' := { w with heap := w.heap.setIfInBounds y (.map es.toArray (hget H m.p).e) }) hr hy hk2 ?_ hv0 ?_ s1 s2 s3 rfl rfl rfl hok
    · refine ⟨(fun h => by cases h), fun _ => ⟨es, rfl, ?_, by rw [g2']; exact hkt⟩, (fun h => by cases h)⟩
      show Ents φ (hget H m.p).t (hget H m.p).e (delE k _) _
      rw [g2', hdel]; exact hes
    · rw [base none (run_findKey hd f2), run_setObj _ ho (fun _ _ _ h => by cases h)]; rfl
  · obtain ⟨s1, s2, s3⟩ := set_heap (w := w) (.map (es.eraseIdx j).toArray (hget H m.p).e) ho
    refine Out.set (x := y) (w' := { w with heap := w.heap.setIfInBounds y (.map (es.eraseIdx j).toArray (hget H m.p).e) }) hr hy hk2 ?_ hv0 ?_ s1 s2 s3 rfl rfl rfl hok
    · refine ⟨(fun h => by cases h), fun _ => ⟨_, rfl, ?_, by rw [g2']; exact hkt⟩, (fun h => by cases h)⟩
      show Ents φ (hget H m.p).t (hget H m.p).e (delE k _) _
      rw [g2']; exact f8
    · rw [base _ (run_findKey hd f2)]
      simp only []
      rw [run_setObj _ ho (fun _ _ _ h => by cases h)]
      have : es.toArray.eraseIdxIfInBounds (0 + j) = (es.eraseIdx j).toArray := by simp
      rw [this]; rfl
end Go.Eng
