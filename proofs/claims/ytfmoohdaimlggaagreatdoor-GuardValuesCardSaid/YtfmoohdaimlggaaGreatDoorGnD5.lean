
/- A part of the proof that the evaluator in GnC, and the driver in GnZ, answer as the model does; no conditions. -/
import Derived.Test.YtfmoohdaimlggaaGreatDoorGnD4
namespace Go.Eng
open Go.RowKit
variable {ro : Option Nat} {P : Program} {w0 : World} {r : Rec} {N : Nat} {H0 : Hp} {φ0 : Ph} {L : RL} {all : Array Oper} {k : BR} {ord : List DI}
variable {ls : Array Bool} {a : Act} {w : World} {done rest : List DI} {T : Fr} {H : Hp} {φ : Ph} {β : Nat → Option Nat}

theorem Li_set {i j : Nat} : Li (ls.setIfInBounds i true) j ↔ Li ls j ∨ (j = i ∧ i < ls.size) := by
  unfold Li
  by_cases h : i = j
  · subst h
    by_cases hi : i < ls.size
    · simp [hi]
    · simp [hi]
  · rw [getD_set_ne false h]
    exact ⟨.inl, fun h' => h'.resolve_right fun e => h e.1.symm⟩
def Inv (P : Program) (w0 : World) (r : Rec) (N : Nat) (H0 : Hp) (φ0 : Ph) (L : RL) (all : Array Oper) (k : BR) (ord : List DI) (ls : Array Bool) (a : Act) (w : World) : Prop :=
  ∃ done rest T H φ β, Pre P w0 r N H0 φ0 L all k ord ls a w done rest T H φ β ∧ ∀ h l, rest = h :: l → h.cls = 2
/-- once nothing is ready all is listed -/
theorem Inv.finish (hO : OrdOk P N all ord) (hz : ls.size = all.size) (h : Inv P w0 r N H0 φ0 L all k ord ls a w) (hr : Region.ready .any all ls = []) : On P w0 r N H0 φ0 L k a w := by
  obtain ⟨done, rest, T, H, φ, β, hp, _⟩ := h
  have hall : ∀ n, ∀ l1 b l2, l1.length = n → ord = l1 ++ b :: l2 → Li ls b.i := by
    intro n
    induction n using Nat.strongRecOn with
    | _ n ih =>
      intro l1 b l2 hn hs
      by_cases hl : Li ls b.i
      · exact hl
      · exfalso
        have hb : b ∈ ord := by rw [hs]; simp
        obtain ⟨o, h1, _, _, _, _, h2, _⟩ := ord_cls hO hb
        have hlt : b.i < all.size := (Array.getElem?_eq_some_iff.1 h1).1
        have hrd : b.i ∈ Region.ready .any all ls := by
          refine mem_ready.2 ⟨?_, o, h1, fun e he hbind => ?_⟩
          · have hlt' : b.i < ls.size := by omega
            unfold Li at hl
            simp [hlt'] at hl ⊢
            exact hl
          · have hbit : b.dm.testBit e.on = true := by rw [h2, dmOf_bit]; exact ⟨e, by simpa using he, hbind, rfl⟩
            rcases hO.topo.down _ _ _ hs _ hbit with h3 | ⟨b', h3, h4⟩
            · simp at h3
            · obtain ⟨m1, m2, e1⟩ := List.append_of_mem h3
              have := ih m1.length (by rw [← hn, e1]; simp) m1 b' (m2 ++ b :: l2) rfl (by rw [hs, e1]; simp)
              rw [h4] at this
              exact this
        rw [hr] at hrd
        cases hrd
  have hord : ∀ b ∈ ord, Li ls b.i := fun b hb => by
    obtain ⟨l1, l2, e⟩ := List.append_of_mem hb
    exact hall _ l1 b l2 rfl e
  have hrest : rest = [] := by
    cases rest with
    | nil => rfl
    | cons b l => exact absurd (hord b (by rw [hp.split]; simp)) (not_listed hO hp.split hp.listed b List.mem_cons_self)
  subst hrest
  exact ⟨T, H, φ, ⟨⟨hp.size, fun t => hp.val t fun b hb _ hl => absurd (hord b (hp.mem b hb)) hl, hp.defers, hp.hr.gl⟩, hp.hr, hp.ex⟩, hp.run⟩
theorem put_size (a : Act) (d : Option Nat) (v : Value) : (a.put d v).tmps.size = a.tmps.size ∧ (a.put d v).defers = a.defers := by
  cases d <;> simp [Act.put]
theorem put_at {a : Act} {d : Nat} {v : Value} (h : d < a.tmps.size) : (a.put (some d) v).tmps.getD d undef = v := by simp [Act.put, Array.getD, h]
theorem put_ne {a : Act} {d t : Nat} {v : Value} (h : d ≠ t) : (a.put (some d) v).tmps.getD t undef = a.tmps.getD t undef := by
  have e : ∀ (x : Array Value), x.getD t undef = (x[t]?).getD undef := fun x => by simp
  show (a.tmps.setIfInBounds d v).getD t undef = _
  rw [e, e, Array.getElem?_setIfInBounds_ne h]
theorem ex_none {H' : Hp} {φ' : Ph} (hex : EX H φ H' φ') {p : Nat} (hp : p < H.n) (h : φ p = none) : φ' p = none := by
  cases h' : φ' p with
  | none => rfl
  | some x => exact absurd (hex.fresh p x h' h) (by omega)
/-- one that was carried out already is listed: the value that was put down stays -/
theorem Pre.list_one (hO : OrdOk P N all ord) (hz : ls.size = all.size) {b : DI} {o : Oper} {φ' : Ph} {val : Value} {w' : World} (hp : Pre P w0 r N H0 φ0 L all k ord ls a w done rest T H φ β) (hb : b ∈ done) (hc : b.cls ≠ 2) (hn : ¬ Li ls b.i)
    (ho : all[b.i]? = some o) (hrd : ∀ e ∈ o.after, Region.binds .any e = true → Li ls e.on) (hle : Le φ φ') (hr : HR P w0 H φ' w') (hex : EX H0 φ0 H φ') (hv : VR φ' ((getB b.d).run T) val)
    (hnone : ∀ b' ∈ done, b'.cls = 1 → ¬ Li ls b'.i → b'.i ≠ b.i → ∀ y, β b'.i = some y → φ' y = none) : Pre P w0 r N H0 φ0 L all k ord (ls.setIfInBounds b.i true) (a.put o.dst val) w' done rest T H φ' β := by
  have hbo := hp.mem b hb
  obtain ⟨o', h1, _, _, _, h4, h5, _⟩ := ord_cls hO hbo
  rw [ho] at h1; cases h1
  have hlt : b.i < ls.size := by rw [hz]; exact (Array.getElem?_eq_some_iff.1 ho).1
  have hLi : ∀ j, Li (ls.setIfInBounds b.i true) j ↔ Li ls j ∨ j = b.i := fun j => by rw [Li_set]; exact or_congr Iff.rfl ⟨fun h => h.1, fun h => ⟨h, hlt⟩⟩
  have hd := ord_d hO hbo hc
  have hdst : o.dst = some b.d := by
    cases hdd : o.dst with
    | none => rw [hdd] at h4; have : b.d = 512 := h4; omega
    | some d => rw [hdd] at h4; exact congrArg some h4.symm
  refine ⟨hp.split, hp.run, hr, hex, by rw [(put_size _ _ _).1]; exact hp.size, by rw [(put_size _ _ _).2]; exact hp.defers.mono hle, ?_, ?_, ?_, ?_, ?_, ?_, ?_⟩
  · intro b' hb' h2; exact (hLi _).2 (.inl (hp.hard b' hb' h2))
  · intro i hi
    rcases (hLi _).1 hi with h | h
    · exact hp.listed i h
    · exact ⟨b, hb, h.symm⟩
  · intro b' hb' hl j hj
    refine (hLi _).2 (.inl ?_)
    rcases (hLi _).1 hl with h | h
    · exact hp.closed b' hb' h j hj
    · obtain ⟨o', g1, _, _, _, _, g2, _⟩ := ord_cls hO (hp.mem b' hb')
      rw [h, ho] at g1; cases g1
      rw [g2, dmOf_bit] at hj
      obtain ⟨e, he, hbind, rfl⟩ := hj
      exact hrd e (by simpa using he) hbind
  · intro t ht
    rw [hdst]
    by_cases hbt : b.d = t
    · subst hbt
      rw [put_at (by have := hp.size; omega)]; exact hv
    · rw [put_ne hbt]
      refine (hp.val t fun b' hb' hc' hl' => ?_).mono hle
      by_cases hii : b'.i = b.i
      · obtain ⟨o', g1, g2⟩ := hO.mem b' (hp.mem b' hb')
        obtain ⟨o'', g3, g4⟩ := hO.mem b hbo
        have : b' = b := by
          rw [g2, g4]
          rw [hii, g3] at g1; cases g1
          rw [hii]
        rw [this]; exact hbt
      · exact ht b' hb' hc' fun h => ((hLi _).1 h).elim hl' hii
  · intro b' hb' h0 hl c
    exact hp.look b' hb' h0 (fun h => hl ((hLi _).2 (.inl h))) c
  · intro b' hb' h1 hl
    have hl' : ¬ Li ls b'.i := fun h => hl ((hLi _).2 (.inl h))
    have hne : b'.i ≠ b.i := fun h => hl ((hLi _).2 (.inr h))
    rcases hp.make b' hb' h1 hl' with h | ⟨y, o', B, mk, e0, e1, e2, e3, e4, e5, e6, e7, e8, e9⟩
    · exact .inl h
    · exact .inr ⟨y, o', B, mk, e0, e1, e2, e3, e4, e5, e6, hnone b' hb' h1 hl' hne y e0, e8, e9⟩
  · intro b1 hb1 b2 hb2 k1 k2 l1 l2
    exact hp.apart b1 hb1 b2 hb2 k1 k2 (fun h => l1 ((hLi _).2 (.inl h))) (fun h => l2 ((hLi _).2 (.inl h)))
/-- what a listed one reads is known -/
theorem PreX.reads (hO : OrdOk P N all ord) {b : DI} {o : Oper} {X : BR} (hp : PreX X P w0 r N H0 φ0 L all k ord ls a w done rest T H φ β) (hb : b ∈ ord) (ho : all[b.i]? = some o) (hn : ¬ Li ls b.i) (hrd : ∀ e ∈ o.after, Region.binds .any e = true → Li ls e.on) :
    ∀ t ∈ b.rd, VR φ ((getB t).run T) (a.tmps.getD t undef) := by
  intro t ht
  refine hp.val t fun b' hb' hc' hl' e => ?_
  have hd := ord_d hO (hp.mem b' hb') hc'
  obtain ⟨o', h1, _, _, _, _, h5, _⟩ := ord_cls hO hb
  rw [ho] at h1; cases h1
  rcases (pair_ok (hO.pair b' (hp.mem b' hb') b hb) (by omega)).1 (by rw [e]; exact ht) with h | ⟨h, _⟩
  · rw [h5, dmOf_bit] at h
    obtain ⟨e', he', hbind, he2⟩ := h
    exact hl' (he2 ▸ hrd e' (by simpa using he') hbind)
  · exact hc' h
/-- the word that gives back value and memory -/
noncomputable def cid : Kont := fun H v => [⟨0, 0, (setB 0).run noFr v, H⟩]
theorem cid_inj {H H' : Hp} {v v' : AV} (h : ∀ x ∈ cid H' v', x ∈ cid H v) : H' = H ∧ v' = v := by
  have h1 := List.mem_singleton.1 (h _ (List.mem_singleton.2 rfl))
  injection h1 with _ _ h2 h3
  refine ⟨h3, ?_⟩
  have := congrArg (fun T => (getB 0).run T) h2
  simp only [getB_setB] at this
  simpa using this
theorem new_no_defer {o : Oper} (h : clsOf o = 1) : ∀ c, o.op ≠ .defer c := by
  intro c hc
  simp only [clsOf, hc] at h
  cases h
/-- one more is listed -/
theorem Inv.step (hrec : RecOk P r) (hO : OrdOk P N all ord) (hL : AllOk L) (hz : ls.size = all.size) {Q : Exit → Act → World → Prop} {K : Act → World → Prop} (h : Inv P w0 r N H0 φ0 L all k ord ls a w) {i : Nat} (hi : i ∈ Region.ready .any all ls)
    (hK : ∀ a w, Inv P w0 r N H0 φ0 L all k ord (ls.setIfInBounds i true) a w → K a w) : wpOpIn (fen ro) 0 P all Q i K a w := by
  obtain ⟨done, rest, T, H, φ, β, hp, hhead⟩ := h
  obtain ⟨hun, o, ho, hafter⟩ := mem_ready.1 hi
  have hlt : i < all.size := (Array.getElem?_eq_some_iff.1 ho).1
  have hnl : ¬ Li ls i := by
    have : i < ls.size := by omega
    unfold Li
    simp [this] at hun ⊢
    exact hun
  have hb : ∃ b ∈ ord, b.i = i := by
    rcases hO.topo.full i (by
      show (2 ^ all.size - 1).testBit i = true
      rw [Nat.testBit_two_pow_sub_one]; simpa using hlt) with h | h
    · simp at h
    · exact h
  obtain ⟨b, hb, rfl⟩ := hb
  obtain ⟨o', h1, hx, hrd, hcls, hdst, hdm, hok⟩ := ord_cls hO hb
  rw [ho] at h1; cases h1
  have hreads := hp.reads hO hb ho hnl hafter
  have hin : b ∈ done ∨ b ∈ rest := by
    have := hb; rw [hp.split] at this; simpa using this
  rcases hin with hin | hin
  · have hc2 : b.cls ≠ 2 := fun h => hnl (hp.hard b hin h)
    have hlk : (∀ c, b.x.run r T H c = c H ((getB b.d).run T)) → wpOpIn (fen ro) 0 P all Q b.i K a w := fun hlook => by
      have hv0 := hlook cid
      refine runG_step (H := H) (φ := φ) (T := T) (L := cid H ((getB b.d).run T)) (c := cid) hrec ?_ ho hok hp.size (fun t ht => hreads t (by rw [hrd]; exact ht)) hp.hr (by rw [← hx, hv0]; exact fun _ h => h) ?_
      · intro x hx
        rw [List.mem_singleton.1 hx]
        exact fun h => by cases h
      · intro val v H' φ' w' g1 g2 g3 g4
        obtain ⟨rfl, rfl⟩ := cid_inj g4
        refine hK _ _ ⟨done, rest, T, H', φ', β, ?_, hhead⟩
        refine hp.list_one hO hz hin hc2 hnl ho hafter g3.keep g2 (hp.ex.trans g3) g1 fun b' hb' c1 c2 _ y hy => ?_
        rcases hp.make b' hb' c1 c2 with ⟨e0, _⟩ | ⟨y', _, _, _, e0, _, _, _, _, _, _, e7, e8, _⟩
        · rw [e0] at hy; cases hy
        · rw [e0] at hy; cases hy
          exact ex_none g3 e8 e7
    rcases ord_le2 hO hb with h0 | h1 | h2
    · exact hlk (hp.look b hin h0 hnl)
    · -- it makes a block
      rcases hp.make b hin h1 hnl with ⟨_, e1⟩ | ⟨y, o', B, mk, e0, e1, e2, e3, e4, e5, e6, e7, e8, e9⟩
      · exact hlk (e1 H)
      rw [ho] at e1; cases e1
      obtain ⟨obj, val, g1, g2, g3⟩ := e3 φ a w hp.hr.gl fun t ht => hreads t (by rw [hrd, appL_eq]; exact List.mem_append_right _ ht)
      obtain ⟨φ', k1, k2, k3, k4, k5⟩ := hp.hr.late e8 e7 (by rw [e6]; exact g2)
      have hw : Region.wanted o (yielded all a.tmps) = true := e2.1.wanted hok hp.size fun t ht => hreads t (by rw [hrd, appL_eq]; exact List.mem_append_left _ ht)
      unfold Go.wpOpIn
      simp only [ho, hw, if_true]
      refine ⟨fun _ _ => trivial, ?_⟩
      rw [Oper.semAt_eq _ _ _ (new_no_defer (hcls.symm.trans h1)), g1, Oper.uponIn_value]
      refine hK _ _ ⟨done, rest, T, H, φ', β, ?_, hhead⟩
      refine hp.list_one hO hz hin hc2 hnl ho hafter k1 k4 ⟨hp.ex.keep.trans k1, ?_, hp.ex.n, hp.ex.lim, hp.ex.low, hp.ex.other, hp.ex.loop, fun x C hx => hp.ex.fzn x C (k5 ▸ hx)⟩ (by rw [e5]; exact g3 φ' _ k2) fun b' hb' c1 c2 hne y' hy' => ?_
      · intro b' x hbx hn0
        by_cases hbb : b' = y
        · rw [hbb]; exact e9
        · rw [k3 b' hbb] at hbx
          exact hp.ex.fresh b' x hbx hn0
      · have hββ : y' ≠ y := fun he => hne (hp.apart b' hb' b hin c1 h1 c2 hnl y' hy' (he ▸ e0))
        rw [k3 _ hββ]
        rcases hp.make b' hb' c1 c2 with ⟨e0', _⟩ | ⟨y'', _, _, _, e0', _, _, _, _, _, _, e7', _, _⟩
        · rw [e0'] at hy'; cases hy'
        · rw [e0'] at hy'; cases hy'
          exact e7'
    · exact absurd h2 hc2
  · -- it may do more: it is the next in order
    obtain ⟨l1, l2, he⟩ := List.append_of_mem hin
    have hl1 : l1 = [] := by
      cases l1 with
      | nil => rfl
      | cons hd l1 =>
        exfalso
        have hhd := hhead hd (l1 ++ b :: l2) (by rw [he]; rfl)
        have hs : ord = done.reverse ++ hd :: (l1 ++ b :: l2) := by rw [hp.split, he]; rfl
        obtain ⟨j, hj, b', hb', hbj⟩ := hO.topo.hang _ _ _ hs hhd b (by simp)
        rw [hdm, dmOf_bit] at hj
        obtain ⟨e, he1, he2, rfl⟩ := hj
        have := hafter e (by simpa using he1) he2
        exact not_listed hO hs hp.listed b' hb' (by unfold Li; rw [hbj]; exact this)
    subst hl1
    simp only [List.nil_append] at he
    subst he
    have hc2 := hhead b l2 rfl
    obtain ⟨T, hp⟩ := Pre.gate hO hL hp
    have hreads := hp.reads hO hb ho hnl hafter
    have hrun := hp.run
    have e : (dbody k done b l2).run r T H = b.x.run r T H fun H v => (recK (chk done b.dm)).run r ((setB b.d).run T v) H ((dgo k (b :: done) l2).run r ((setB b.d).run T v) H) := by
      show (bi (nbeq b.cls 0) _ _ : BR).run r T H = _
      rw [beq_false.2 (show b.cls ≠ 0 by omega)]
      show b.x.run r T H (fun H v => (recK (chk done (bi (nbeq b.cls 2) b.dm 0))).run r ((setB b.d).run T v) H _) = _
      rw [beq_true.2 hc2]; rfl
    rw [e] at hrun
    refine runG_step (H := H) (φ := φ) (T := T) (L := L) (c := fun H v => (recK (chk done b.dm)).run r ((setB b.d).run T v) H ((dgo k (b :: done) l2).run r ((setB b.d).run T v) H)) hrec hL ho hok hp.size (fun t ht => hreads t (by rw [hrd]; exact ht)) hp.hr (by rw [← hx]; exact hrun) ?_
    intro val v H' φ' w' g1 g2 g3 g4
    have hsoft : ∀ b' ∈ chk done b.dm, SoftK H' (b'.x.run r ((setB b.d).run T v) H') := by
      intro b' hb'
      obtain ⟨c1, c2⟩ := chk_sub b' hb'
      obtain ⟨o', _, c3, _, c4, _⟩ := ord_cls hO (hp.mem b' c1)
      rw [c3]; exact soft_runG (c4.symm.trans c2)
    obtain ⟨hlook, hrun'⟩ := recK_ok hL _ hsoft g4
    have hlt' : b.i < ls.size := by omega
    have hLi : ∀ j, Li (ls.setIfInBounds b.i true) j ↔ Li ls j ∨ j = b.i := fun j => by rw [Li_set]; exact or_congr Iff.rfl ⟨fun h => h.1, fun h => ⟨h, hlt'⟩⟩
    have hne : ∀ b' ∈ done, b'.i ≠ b.i := fun b' hb' => hO.topo.nodup _ _ _ hp.split b' (by simp [hb'])
    have hT : ∀ t, t ≠ b.d → (getB t).run T = (getB t).run ((setB b.d).run T v) := fun t ht => by rw [getB_setB, if_neg (fun h => ht h.1.symm)]
    have hbl : ∀ j, b.dm.testBit j = true → Li ls j := by
      intro j hj
      rw [hdm, dmOf_bit] at hj
      obtain ⟨e, he1, he2, rfl⟩ := hj
      exact hafter e (by simpa using he1) he2
    -- of those carried out and not listed none reads or writes what it puts down
    have hread : ∀ b' ∈ done, ¬ Li ls b'.i → b.d ≠ 512 → b.d ∉ b'.rd := by
      intro b' hb' hl' hd hm
      rcases (pair_ok (hO.pair b hb b' (hp.mem b' hb')) hd).1 hm with h | ⟨_, h | h⟩
      · obtain ⟨m1, m2, em⟩ := List.append_of_mem (List.mem_reverse.2 hb')
        have hs' : ord = m1 ++ b' :: (m2 ++ b :: l2) := by rw [hp.split, em]; simp
        rcases hO.topo.down m1 b' _ hs' _ h with h1 | ⟨b'', h1, h2⟩
        · simp at h1
        · exact hne b'' (by rw [← List.mem_reverse, em]; simp [h1]) h2
      · exact hl' (hbl _ h)
      · exact hne b' hb' h.symm
    have hT512 : b.d = 512 → (setB b.d).run T v = T := fun h => by rw [h]; rfl
    have hrd' : ∀ b' ∈ done, ¬ Li ls b'.i → ∀ t ∈ b'.rd, (getB t).run T = (getB t).run ((setB b.d).run T v) := by
      intro b' hb' hl' t ht
      by_cases hd : b.d = 512
      · rw [hT512 hd]
      · exact hT t fun e => hread b' hb' hl' hd (e ▸ ht)
    have hdd : ∀ b' ∈ done, (getB b'.d).run T = (getB b'.d).run ((setB b.d).run T v) := by
      intro b' hb'
      by_cases hd : b.d = 512
      · rw [hT512 hd]
      · exact hT _ (Ne.symm (no_same hO hp.split hd hb'))
    have hpre : Pre P w0 r N H0 φ0 L all k ord (ls.setIfInBounds b.i true) (a.put o.dst val) w' (b :: done) l2 ((setB b.d).run T v) H' φ' β := by
      refine ⟨by rw [hp.split]; simp, hrun', g2, hp.ex.trans g3, by rw [(put_size _ _ _).1]; exact hp.size, by rw [(put_size _ _ _).2, marksT_setB]; exact hp.defers.mono g3.keep, ?_, ?_, ?_, ?_, ?_, ?_, ?_⟩
      · intro b' hb' h2
        cases hb' with
        | head => exact (hLi _).2 (.inr rfl)
        | tail _ hb' => exact (hLi _).2 (.inl (hp.hard b' hb' h2))
      · intro j hj
        rcases (hLi _).1 hj with h | h
        · obtain ⟨b', c1, c2⟩ := hp.listed j h
          exact ⟨b', List.mem_cons_of_mem _ c1, c2⟩
        · exact ⟨b, List.mem_cons_self, h.symm⟩
      · intro b' hb' hl j hj
        refine (hLi _).2 (.inl ?_)
        cases hb' with
        | head => exact hbl j hj
        | tail _ hb' => exact hp.closed b' hb' (((hLi _).1 hl).resolve_right (hne b' hb')) j hj
      · intro t ht
        have hrest : (∀ b' ∈ done, b'.cls ≠ 2 → ¬ Li ls b'.i → b'.d ≠ t) := fun b' hb' hc' hl' => ht b' (List.mem_cons_of_mem _ hb') hc' fun h => ((hLi _).1 h).elim hl' (hne b' hb')
        cases hod : o.dst with
        | none =>
          have hd : b.d = 512 := by rw [hdst, hod]; rfl
          rw [hT512 hd]
          exact (hp.val t hrest).mono g3.keep
        | some d =>
          have hd : b.d = d := by rw [hdst, hod]; rfl
          obtain ⟨_, h6⟩ := bi_and.1 (show bi (allL (fun d => nble (Nat.succ d) N) (gdOf all o)) (match o.dst with | some d => bi (nble (Nat.succ d) N) (nble (Nat.succ d) 511) false | none => nbeq (clsOf o) 2) false = true from hok)
          rw [hod] at h6
          obtain ⟨h7, h8⟩ := bi_and.1 h6
          have h7 := ble_true.1 h7
          have h8 := ble_true.1 h8
          by_cases hbt : d = t
          · subst hbt
            rw [put_at (by have := hp.size; omega), hd, getB_setB, if_pos ⟨rfl, h8⟩]
            exact g1
          · rw [put_ne hbt, ← hT t (fun e => hbt (hd.symm.trans e.symm))]
            exact (hp.val t hrest).mono g3.keep
      · intro b' hb' h0 hl c
        cases hb' with
        | head => omega
        | tail _ hb' =>
          have hl' : ¬ Li ls b'.i := fun h => hl ((hLi _).2 (.inl h))
          exact hlook b' (chk_mem (S := Li ls) done hp.closed b.dm hbl b' hb' h0 hl') c
      · intro b' hb' h1 hl
        cases hb' with
        | head => omega
        | tail _ hb' =>
          have hl' : ¬ Li ls b'.i := fun h => hl ((hLi _).2 (.inl h))
          exact make_keep (ls' := ls) hO hp hb' h1 hl' (hrd' b' hb' hl') (hdd b' hb') (fun p hlt h h6 => ⟨g3.other p hlt h h6, ex_none g3 hlt h⟩) g3.n
      · intro b1 hb1 b2 hb2 k1 k2 l1' l2'
        cases hb1 with
        | head => omega
        | tail _ hb1 => cases hb2 with
          | head => omega
          | tail _ hb2 => exact hp.apart b1 hb1 b2 hb2 k1 k2 (fun h => l1' ((hLi _).2 (.inl h))) (fun h => l2' ((hLi _).2 (.inl h)))
    obtain ⟨done', rest', T', H'', β', q1, q2⟩ := Pre.advance hO hL _ _ _ _ _ hpre
    exact hK _ _ ⟨done', rest', T', H'', φ', β', q1, q2⟩
theorem countP_lt {α : Type} {p q : α → Bool} (l : List α) (h : ∀ x, q x = true → p x = true) {x : α} (hx : x ∈ l) (h1 : p x = true) (h2 : q x = false) : l.countP q < l.countP p := by
  induction l with
  | nil => cases hx
  | cons y l ih =>
    have hmono : l.countP q ≤ l.countP p := List.countP_mono_left fun x _ => h x
    cases hx with
    | head => rw [List.countP_cons_of_neg (by simp [h2]), List.countP_cons_of_pos h1]; omega
    | tail _ hx =>
      have := ih hx
      by_cases hq : q y = true
      · rw [List.countP_cons_of_pos hq, List.countP_cons_of_pos (h y hq)]; omega
      · rw [List.countP_cons_of_neg hq]
        by_cases hpy : p y = true
        · rw [List.countP_cons_of_pos hpy]; omega
        · rw [List.countP_cons_of_neg hpy]; omega
theorem wpAny_on (hrec : RecOk P r) (hO : OrdOk P N all ord) (hL : AllOk L) {Q : Exit → Act → World → Prop} (hQ : ∀ a w, On P w0 r N H0 φ0 L k a w → Q .normal a w) (fuel : Nat) :
    ∀ (ls : Array Bool) (a : Act) (w : World), ls.size = all.size → (List.range all.size).countP (fun j => !ls.getD j false) ≤ fuel → Inv P w0 r N H0 φ0 L all k ord ls a w → wpAnyIn (fen ro) 0 P .any all Q fuel ls a w := by
  induction fuel with
  | zero =>
    intro ls a w hz hc h
    have hr : Region.ready .any all ls = [] := by
      cases hr : Region.ready .any all ls with
      | nil => rfl
      | cons i l =>
        have hi : i ∈ Region.ready .any all ls := by rw [hr]; simp
        obtain ⟨hun, o, ho, _⟩ := mem_ready.1 hi
        have hlt : i < all.size := (Array.getElem?_eq_some_iff.1 ho).1
        have h0 := List.countP_eq_zero.1 (Nat.le_zero.1 hc) i (by simpa using hlt)
        have : i < ls.size := by omega
        simp [this] at hun h0
        rw [hun] at h0; cases h0
    exact ⟨hr, hQ a w (h.finish hO hz hr)⟩
  | succ fuel ih =>
    intro ls a w hz hc h
    refine ⟨fun hr => hQ a w (h.finish hO hz hr), fun i hi => ?_⟩
    refine h.step hrec hO hL hz hi fun a' w' h' => ih _ a' w' (by simpa using hz) ?_ h'
    obtain ⟨hun, o, ho, _⟩ := mem_ready.1 hi
    have hlt : i < all.size := (Array.getElem?_eq_some_iff.1 ho).1
    have hlt' : i < ls.size := by omega
    have : (List.range all.size).countP (fun j => !(ls.setIfInBounds i true).getD j false) < (List.range all.size).countP (fun j => !ls.getD j false) := by
      refine countP_lt _ ?_ (x := i) (by simpa using hlt) ?_ ?_
      · intro x hx
        simp only [Bool.not_eq_true'] at hx ⊢
        cases hg : ls.getD x false with
        | false => rfl
        | true => rw [getD_set_true hg] at hx; cases hx
      · simp [hlt'] at hun ⊢; exact hun
      · simp [hlt']
    omega
theorem draw_wp {T : Fr} {H : Hp} {φ : Ph} {a : Act} {w : World} {id : Nat} {Q : Exit → Act → World → Prop} (hm : P.follows .mixedOrders = true) (hrec : RecOk P r) (hL : AllOk L) (hs : St P w0 N H0 φ0 T H φ a w) (h : ∀ x ∈ (drawK P N all k).run r T H, x ∈ L)
    (hQ : ∀ a w, On P w0 r N H0 φ0 L k a w → Q .normal a w) : (Code.region id all true).wpIn (fen ro) 0 P Q a w := by
  unfold drawK at h
  cases hok : okD all.size (schedD all.size (disOf P N all 0 all.toList) 0)
  · rw [hok] at h; exact (failR_sub hL h).elim
  rw [hok, bi_true] at h
  have hO := ord_ok hok
  refine wpIn_region_any hm ?_
  have hzero : ∀ i, ¬ Li (Array.replicate all.size false) i := fun i h => by
    unfold Li at h
    by_cases hi : i < all.size
    · simp [hi] at h
    · simp [hi] at h
  have hw : HR P w0 H φ { w with drawn := w.drawn + 1 } := ⟨hs.hr.blk, hs.hr.inj, hs.hr.n, hs.hr.lim, ⟨hs.hr.below.os, hs.hr.below.tape, hs.hr.below.output, hs.hr.below.size, hs.hr.below.block⟩, hs.hr.gl, hs.hr.op, hs.hr.fz, hs.hr.tl, hs.hr.fo⟩
  have hpre : Pre P w0 r N H0 φ0 L all k (schedD all.size (disOf P N all 0 all.toList) 0) (Array.replicate all.size false) a { w with drawn := w.drawn + 1 } [] (schedD all.size (disOf P N all 0 all.toList) 0) T H φ (fun _ => none) :=
    ⟨rfl, h, hw, hs.ex, hs.tr.size, hs.tr.defers, fun b hb => (by cases hb), fun i hi => absurd hi (hzero i), fun b hb => (by cases hb), fun t _ => hs.tr.val t, fun b hb => (by cases hb), fun b hb => (by cases hb), fun b hb => (by cases hb)⟩
  obtain ⟨done', rest', T', H', β', q1, q2⟩ := Pre.advance hO hL _ _ _ _ _ hpre
  refine wpAny_on hrec hO hL hQ all.size _ a _ (by simp) ?_ ⟨done', rest', T', H', φ, β', q1, q2⟩
  refine Nat.le_trans List.countP_le_length ?_
  simp
end Go.Eng
