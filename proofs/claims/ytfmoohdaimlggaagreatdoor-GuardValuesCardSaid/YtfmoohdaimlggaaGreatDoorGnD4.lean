
/- A part of the proof that the evaluator in GnC, and the driver in GnZ, answer as the model does; no conditions. -/
import Derived.Test.YtfmoohdaimlggaaGreatDoorGnD3
namespace Go.Eng
open Go.RowKit
variable {P : Program} {w0 : World} {r : Rec} {N : Nat} {H0 : Hp} {φ0 : Ph} {L : RL} {all : Array Oper} {k : BR} {ord : List DI}

def Li (ls : Array Bool) (i : Nat) : Prop := ls.getD i false = true
def SemN (P : Program) (o : Oper) (T : Fr) (B : AB) (mk : Nat → AV) : Prop := ∀ (φ : Ph) (a : Act) (w : World), GL P φ → (∀ t ∈ tmpsO (opsC (opOf P o)), VR φ ((getB t).run T) (a.tmps.getD t undef)) →
  ∃ obj val, (execOp a.eval o).run P w = .ok (.value val) (w.alloc obj) ∧ BRel P φ w.heap.size B obj ∧ ∀ (φ' : Ph) n, φ' n = some w.heap.size → VR φ' (mk n) val
theorem SemN.congr {o : Oper} {T T' : Fr} {B : AB} {mk : Nat → AV} (h : SemN P o T B mk) (he : ∀ t ∈ tmpsO (opsC (opOf P o)), (getB t).run T = (getB t).run T') : SemN P o T' B mk :=
  fun φ a w hgl hv => h φ a w hgl fun t ht => by rw [he t ht]; exact hv t ht
/-- how the one order, carried out up to rest, hangs together with what is listed so far -/
structure PreX (X : BR) (P : Program) (w0 : World) (r : Rec) (N : Nat) (H0 : Hp) (φ0 : Ph) (L : RL) (all : Array Oper) (k : BR) (ord : List DI) (ls : Array Bool) (a : Act) (w : World) (done rest : List DI) (T : Fr) (H : Hp) (φ : Ph) (β : Nat → Option Nat) : Prop where
  split : ord = done.reverse ++ rest
  run : ∀ x ∈ X.run r T H, x ∈ L
  hr : HR P w0 H φ w
  ex : EX H0 φ0 H φ
  size : N ≤ a.tmps.size
  defers : DM φ (marksT T) a.defers
  hard : ∀ b ∈ done, b.cls = 2 → Li ls b.i
  listed : ∀ i, Li ls i → ∃ b ∈ done, b.i = i
  closed : ∀ b ∈ done, Li ls b.i → ∀ j, b.dm.testBit j = true → Li ls j
  val : ∀ t, (∀ b ∈ done, b.cls ≠ 2 → ¬ Li ls b.i → b.d ≠ t) → VR φ ((getB t).run T) (a.tmps.getD t undef)
  look : ∀ b ∈ done, b.cls = 0 → ¬ Li ls b.i → ∀ c, b.x.run r T H c = c H ((getB b.d).run T)
  make : ∀ b ∈ done, b.cls = 1 → ¬ Li ls b.i → (β b.i = none ∧ ∀ H c, b.x.run r T H c = c H ((getB b.d).run T)) ∨ ∃ y o B mk, β b.i = some y ∧ all[b.i]? = some o ∧ (GdT all o T ∧ B.kind = 1) ∧ SemN P o T B mk ∧ (∀ H c, b.x.run r T H c = newC H B mk c) ∧ (getB b.d).run T = mk y ∧ hget H y = B ∧ φ y = none ∧ y < H.n ∧ H0.n ≤ y
  apart : ∀ b ∈ done, ∀ b' ∈ done, b.cls = 1 → b'.cls = 1 → ¬ Li ls b.i → ¬ Li ls b'.i → ∀ y, β b.i = some y → β b'.i = some y → b.i = b'.i
abbrev Pre (P : Program) (w0 : World) (r : Rec) (N : Nat) (H0 : Hp) (φ0 : Ph) (L : RL) (all : Array Oper) (k : BR) (ord : List DI) (ls : Array Bool) (a : Act) (w : World) (done rest : List DI) (T : Fr) (H : Hp) (φ : Ph) (β : Nat → Option Nat) : Prop :=
  PreX (dgo k done rest) P w0 r N H0 φ0 L all k ord ls a w done rest T H φ β
section facts
variable (hO : OrdOk P N all ord)
include hO
theorem ord_cls {b : DI} (hb : b ∈ ord) : ∃ o, all[b.i]? = some o ∧ b.x = runG P all o ∧ b.rd = appL (gdOf all o) (tmpsO (opsC (opOf P o))) ∧ b.cls = clsOf o ∧ b.d = dOf o.dst ∧ b.dm = dmOf o.after.toList ∧ okOf N all o = true := by
  obtain ⟨o, h1, h2⟩ := hO.mem b hb
  refine ⟨o, h1, by rw [h2]; rfl, by rw [h2]; rfl, by rw [h2]; rfl, by rw [h2]; rfl, by rw [h2]; rfl, ?_⟩
  have := hO.ok b hb
  rw [h2] at this
  exact this
theorem ord_d {b : DI} (hb : b ∈ ord) (hc : b.cls ≠ 2) : b.d < 511 ∧ b.d < N := by
  obtain ⟨o, _, _, _, h3, h4, _, h5⟩ := ord_cls hO hb
  obtain ⟨_, h6⟩ := bi_and.1 (show bi (allL (fun d => nble (Nat.succ d) N) (gdOf all o)) (match o.dst with | some d => bi (nble (Nat.succ d) N) (nble (Nat.succ d) 511) false | none => nbeq (clsOf o) 2) false = true from h5)
  cases hd : o.dst with
  | none => rw [hd] at h6; exact absurd (h3.trans (beq_true.1 h6)) hc
  | some d =>
    rw [hd] at h6 h4
    obtain ⟨h7, h8⟩ := bi_and.1 h6
    have e : b.d = d := h4
    exact ⟨by rw [e]; exact ble_true.1 h8, by rw [e]; exact ble_true.1 h7⟩
theorem ord_le2 {b : DI} (hb : b ∈ ord) : b.cls = 0 ∨ b.cls = 1 ∨ b.cls = 2 := by
  obtain ⟨o, _, _, _, h3, _⟩ := ord_cls hO hb
  rw [h3]
  unfold clsOf
  repeat' split
  all_goals simp
/-- one of those carried out does not read what one behind it puts down, unless that one may do more -/
theorem no_read {done rest : List DI} {b b' : DI} (hs : ord = done.reverse ++ b :: rest) (hc : b.cls ≠ 2) (hb' : b' ∈ done ∨ b' = b) : b.d ∉ b'.rd := by
  intro hm
  have hb : b ∈ ord := by rw [hs]; simp
  have hbo : b' ∈ ord := by
    rcases hb' with h | rfl
    · rw [hs]; simp [h]
    · exact hb
  have hd := (ord_d hO hb hc).1
  rcases (pair_ok (hO.pair b hb b' hbo) (by omega)).1 hm with h | ⟨h, _⟩
  · rcases hb' with hb' | rfl
    · obtain ⟨l1, l2, e⟩ := List.append_of_mem (List.mem_reverse.2 hb')
      have hs' : ord = l1 ++ b' :: (l2 ++ b :: rest) := by rw [hs, e]; simp
      rcases hO.topo.down l1 b' _ hs' _ h with h1 | ⟨b'', h1, h2⟩
      · simp at h1
      · exact hO.topo.nodup _ _ _ hs b'' (by rw [e]; simp [h1]) h2
    · rcases hO.topo.down _ b' _ hs _ h with h1 | ⟨b'', h1, h2⟩
      · simp at h1
      · exact hO.topo.nodup _ _ _ hs b'' h1 h2
  · exact hc h
theorem no_same {done rest : List DI} {b b' : DI} (hs : ord = done.reverse ++ b :: rest) (hd : b.d ≠ 512) (hb' : b' ∈ done) : b.d ≠ b'.d := by
  refine (pair_ok (hO.pair b (by rw [hs]; simp) b' (by rw [hs]; simp [hb'])) hd).2 fun e => ?_
  exact hO.topo.nodup _ _ _ hs b' (by simp [hb']) e.symm
theorem not_listed {ls : Array Bool} {done rest : List DI} {b : DI} (hs : ord = done.reverse ++ b :: rest) (hl : ∀ i, Li ls i → ∃ b ∈ done, b.i = i) : ∀ b' ∈ b :: rest, ¬ Li ls b'.i := by
  intro b' hb' hli
  obtain ⟨b'', h1, h2⟩ := hl _ hli
  obtain ⟨l1, l2, e⟩ := List.append_of_mem hb'
  have hs' : ord = (done.reverse ++ l1) ++ b' :: l2 := by rw [hs, e]; simp
  exact hO.topo.nodup _ _ _ hs' b'' (by simp [h1]) h2
end facts
section steps
variable {ls : Array Bool} {a : Act} {w : World} {done rest : List DI} {T : Fr} {H : Hp} {φ : Ph} {β : Nat → Option Nat} {X : BR}
theorem recK_ok (hL : AllOk L) (l : List DI) (hs : ∀ b ∈ l, SoftK H (b.x.run r T H)) {M : RL} (h : ∀ x ∈ (recK l).run r T H M, x ∈ L) :
    (∀ b ∈ l, ∀ c, b.x.run r T H c = c H ((getB b.d).run T)) ∧ ∀ x ∈ M, x ∈ L := by
  induction l with
  | nil => exact ⟨fun b hb => (by cases hb), h⟩
  | cons b l ih =>
    have h : ∀ x ∈ b.x.run r T H (fun _ v => bi (eqA 1000 v ((getB b.d).run T)) ((recK l).run r T H M) (failR 90)), x ∈ L := h
    rcases hs b List.mem_cons_self with ⟨n, hn⟩ | ⟨v, hv⟩
    · rw [hn] at h; exact (failR_sub hL h).elim
    · rw [hv] at h
      cases he : eqA 1000 v ((getB b.d).run T)
      · simp only [he, bi_false] at h; exact (failR_sub hL h).elim
      · simp only [he, bi_true] at h
        obtain ⟨h1, h2⟩ := ih (fun b hb => hs b (List.mem_cons_of_mem _ hb)) h
        refine ⟨fun b' hb' c => ?_, h2⟩
        cases hb' with
        | head => rw [hv, eqA_eq _ _ _ he]
        | tail _ hb' => exact h1 b' hb' c
theorem look_congr (hO : OrdOk P N all ord) {b : DI} (hb : b ∈ ord) {T' : Fr} (h : ∀ t ∈ b.rd, (getB t).run T = (getB t).run T') (H : Hp) (c : Kont) : b.x.run r T H c = b.x.run r T' H c := by
  obtain ⟨o, _, h1, h2, _⟩ := ord_cls hO hb
  rw [h1]
  exact runG_congr fun t ht => h t (by rw [h2]; exact ht)
theorem PreX.mem (hp : PreX X P w0 r N H0 φ0 L all k ord ls a w done rest T H φ β) : ∀ b ∈ done, b ∈ ord := fun b hb => by rw [hp.split]; simp [hb]
/-- the makers, with another frame that they read alike and a memory that keeps their blocks -/
theorem make_keep (hO : OrdOk P N all ord) (hp : PreX X P w0 r N H0 φ0 L all k ord ls a w done rest T H φ β) {ls' : Array Bool} {T' : Fr} {H' : Hp} {φ' : Ph} {b : DI} (hb : b ∈ done) (hc : b.cls = 1) (hn : ¬ Li ls b.i)
    (h1 : ∀ t ∈ b.rd, (getB t).run T = (getB t).run T') (h2 : (getB b.d).run T = (getB b.d).run T') (h3 : ∀ p, p < H.n → φ p = none → (hget H p).kind ≠ 6 → hget H' p = hget H p ∧ φ' p = none) (h4 : H.n ≤ H'.n) :
    (β b.i = none ∧ ∀ H c, b.x.run r T' H c = c H ((getB b.d).run T')) ∨ ∃ y o B mk, β b.i = some y ∧ all[b.i]? = some o ∧ (GdT all o T' ∧ B.kind = 1) ∧ SemN P o T' B mk ∧ (∀ H c, b.x.run r T' H c = newC H B mk c) ∧ (getB b.d).run T' = mk y ∧ hget H' y = B ∧ φ' y = none ∧ y < H'.n ∧ H0.n ≤ y := by
  rcases hp.make b hb hc hn with ⟨e0, e1⟩ | ⟨y, o, B, mk, e0, e1, e2, e3, e4, e5, e6, e7, e8, e9⟩
  · exact .inl ⟨e0, fun H c => by rw [← look_congr hO (hp.mem b hb) h1, e1, h2]⟩
  obtain ⟨o', f1, _, f2, _⟩ := ord_cls hO (hp.mem b hb)
  rw [e1] at f1; cases f1
  obtain ⟨g1, g2⟩ := h3 _ e8 e7 (by rw [e6, e2.2]; decide)
  exact .inr ⟨y, o, B, mk, e0, e1, ⟨e2.1.congr fun t ht => h1 t (by rw [f2, appL_eq]; exact List.mem_append_left _ ht), e2.2⟩, e3.congr fun t ht => h1 t (by rw [f2, appL_eq]; exact List.mem_append_right _ ht), fun H c => by rw [← look_congr hO (hp.mem b hb) h1]; exact e4 H c, by rw [← h2]; exact e5, by rw [g1]; exact e6, g2, by omega, e9⟩
noncomputable def dbody (k : BR) (done : List DI) (a : DI) (l : List DI) : BR := bi (nbeq a.cls 0) ⟨fun r T H => a.x.run r T H fun H v => (dgo k (a :: done) l).run r ((setB a.d).run T v) H⟩
      ⟨fun r T H => a.x.run r T H fun H v => (recK (chk done (bi (nbeq a.cls 2) a.dm 0))).run r ((setB a.d).run T v) H ((dgo k (a :: done) l).run r ((setB a.d).run T v) H)⟩
theorem gateD_sub {g : List Nat} {x : BR} (hL : AllOk L) (h : ∀ y ∈ (gateD g x).run r T H, y ∈ L) : ∃ T', (∀ t, (getB t).run T = (getB t).run T') ∧ marksT T' = marksT T ∧ ∀ y ∈ x.run r T' H, y ∈ L := by
  have key : ∀ (d n : Nat), ((getB d).run T).tag = 8 → ((getB d).run T).p = n → ∀ t, (getB t).run T = (getB t).run ((setB d).run T ⟨8, n, ((getB d).run T).q, ((getB d).run T).r, ((getB d).run T).s, ((getB d).run T).cs⟩) := by
    intro d n h8 hn t
    rw [getB_setB]
    split
    · rename_i h
      rw [← h.1]
      generalize (getB d).run T = v at h8 hn
      cases v
      cases h8
      cases hn
      rfl
    · rfl
  unfold gateD at h
  split at h
  · rename_i d
    simp only [] at h
    cases h8 : nbeq ((getB d).run T).tag 8
    · rw [h8, bi_false] at h
      exact ⟨T, fun _ => rfl, rfl, h⟩
    · rw [h8, bi_true] at h
      cases h1 : nbeq ((getB d).run T).p 1
      · rw [h1, bi_false] at h
        cases h0 : nbeq ((getB d).run T).p 0
        · rw [h0] at h; exact (failR_sub hL h).elim
        · rw [h0, bi_true] at h
          exact ⟨_, key d 0 (beq_true.1 h8) (beq_true.1 h0), marksT_setB _ _ _, h⟩
      · rw [h1, bi_true] at h
        exact ⟨_, key d 1 (beq_true.1 h8) (beq_true.1 h1), marksT_setB _ _ _, h⟩
  · exact ⟨T, fun _ => rfl, rfl, h⟩
theorem Pre.gate (hO : OrdOk P N all ord) (hL : AllOk L) {b : DI} (hp : Pre P w0 r N H0 φ0 L all k ord ls a w done (b :: rest) T H φ β) : ∃ T', PreX (dbody k done b rest) P w0 r N H0 φ0 L all k ord ls a w done (b :: rest) T' H φ β := by
  obtain ⟨T', h1, h2, h3⟩ := gateD_sub hL (show ∀ y ∈ (gateD b.g (dbody k done b rest)).run r T H, y ∈ L from hp.run)
  exact ⟨T', hp.split, h3, hp.hr, hp.ex, hp.size, by rw [h2]; exact hp.defers, hp.hard, hp.listed, hp.closed, fun t ht => by rw [← h1]; exact hp.val t ht,
    fun b' hb' h0 hl c => by rw [← look_congr hO (hp.mem b' hb') (fun t _ => h1 t), ← h1]; exact hp.look b' hb' h0 hl c,
    fun b' hb' hc hn => make_keep (ls' := ls) hO hp hb' hc hn (fun t _ => h1 t) (h1 _) (fun p _ h _ => ⟨rfl, h⟩) (Nat.le_refl _), hp.apart⟩
/-- the next in order only looks -/
theorem Pre.soft (hO : OrdOk P N all ord) (hL : AllOk L) {b : DI} (hp : Pre P w0 r N H0 φ0 L all k ord ls a w done (b :: rest) T H φ β) (hc : b.cls = 0) : ∃ T', Pre P w0 r N H0 φ0 L all k ord ls a w (b :: done) rest T' H φ β := by
  have hbo : b ∈ ord := by rw [hp.split]; simp
  obtain ⟨T, hp⟩ := Pre.gate hO hL hp
  have hrun := hp.run
  have e : (dbody k done b rest).run r T H = b.x.run r T H fun H v => (dgo k (b :: done) rest).run r ((setB b.d).run T v) H := by
    show (bi (nbeq b.cls 0) _ _ : BR).run r T H = _
    rw [beq_true.2 hc]; rfl
  rw [e] at hrun
  have hsoft : SoftK H (b.x.run r T H) := by
    obtain ⟨o, _, h1, _, h3, _⟩ := ord_cls hO hbo
    rw [h1]; exact soft_runG (h3.symm.trans hc)
  rcases hsoft with ⟨n, hn⟩ | ⟨v, hv⟩
  · rw [hn] at hrun; exact (failR_sub hL hrun).elim
  rw [hv] at hrun
  have hd := ord_d hO hbo (by omega)
  have hT : ∀ t, t ≠ b.d → (getB t).run T = (getB t).run ((setB b.d).run T v) := fun t ht => by rw [getB_setB, if_neg (fun h => ht h.1.symm)]
  have hTd : (getB b.d).run ((setB b.d).run T v) = v := by rw [getB_setB, if_pos ⟨rfl, hd.1⟩]
  have hrd : ∀ b', b' ∈ done ∨ b' = b → ∀ t ∈ b'.rd, (getB t).run T = (getB t).run ((setB b.d).run T v) := fun b' hb' t ht => hT t fun e => no_read hO hp.split (by omega) hb' (e ▸ ht)
  have hdd : ∀ b' ∈ done, (getB b'.d).run T = (getB b'.d).run ((setB b.d).run T v) := fun b' hb' => hT _ (Ne.symm (no_same hO hp.split (by omega) hb'))
  refine ⟨(setB b.d).run T v, ⟨by rw [hp.split]; simp, hrun, hp.hr, hp.ex, hp.size, by rw [marksT_setB]; exact hp.defers, ?_, ?_, ?_, ?_, ?_, ?_, ?_⟩⟩
  · intro b' hb' h2
    cases hb' with
    | head => omega
    | tail _ hb' => exact hp.hard b' hb' h2
  · intro i hi
    obtain ⟨b', h1, h2⟩ := hp.listed i hi
    exact ⟨b', List.mem_cons_of_mem _ h1, h2⟩
  · intro b' hb' hl
    cases hb' with
    | head => exact absurd hl (not_listed hO hp.split hp.listed b List.mem_cons_self)
    | tail _ hb' => exact hp.closed b' hb' hl
  · intro t ht
    rw [← hT t (fun e => ht b List.mem_cons_self (by omega) (not_listed hO hp.split hp.listed b List.mem_cons_self) e.symm)]
    exact hp.val t fun b' hb' => ht b' (List.mem_cons_of_mem _ hb')
  · intro b' hb' h0 hl c
    cases hb' with
    | head => rw [← look_congr hO hbo (hrd b (.inr rfl)), hv, hTd]
    | tail _ hb' => rw [← look_congr hO (hp.mem b' hb') (hrd b' (.inl hb')), ← hdd b' hb']; exact hp.look b' hb' h0 hl c
  · intro b' hb' h1 hl
    cases hb' with
    | head => omega
    | tail _ hb' => exact make_keep (ls' := ls) hO hp hb' h1 hl (hrd b' (.inl hb')) (hdd b' hb') (fun p _ h _ => ⟨rfl, h⟩) (Nat.le_refl _)
  · intro b1 hb1 b2 hb2 h1 h2
    cases hb1 with
    | head => omega
    | tail _ hb1 => cases hb2 with
      | head => omega
      | tail _ hb2 => exact hp.apart b1 hb1 b2 hb2 h1 h2
/-- the next in order makes a block -/
theorem Pre.new (hO : OrdOk P N all ord) (hL : AllOk L) {b : DI} (hp : Pre P w0 r N H0 φ0 L all k ord ls a w done (b :: rest) T H φ β) (hc : b.cls = 1) : ∃ T' H' β', Pre P w0 r N H0 φ0 L all k ord ls a w (b :: done) rest T' H' φ β' := by
  have hbo : b ∈ ord := by rw [hp.split]; simp
  obtain ⟨T, hp⟩ := Pre.gate hO hL hp
  have hrun := hp.run
  have e : (dbody k done b rest).run r T H = b.x.run r T H fun H v => (recK (chk done 0)).run r ((setB b.d).run T v) H ((dgo k (b :: done) rest).run r ((setB b.d).run T v) H) := by
    show (bi (nbeq b.cls 0) _ _ : BR).run r T H = _
    rw [beq_false.2 (show b.cls ≠ 0 by omega)]
    show b.x.run r T H (fun H v => (recK (chk done (bi (nbeq b.cls 2) b.dm 0))).run r ((setB b.d).run T v) H _) = _
    rw [beq_false.2 (show b.cls ≠ 2 by omega)]; rfl
  rw [e] at hrun
  obtain ⟨o, ho, h1, h2, h3, _, _, _⟩ := ord_cls hO hbo
  have hnl := not_listed hO hp.split hp.listed b List.mem_cons_self
  have hd := ord_d hO hbo (by omega)
  have hne : ∀ b' ∈ done, b'.i ≠ b.i := fun b' hb' => hO.topo.nodup _ _ _ hp.split b' (by simp [hb'])
  rcases new_shape (P := P) (r := r) (T := T) (all := all) (o := o) (h3.symm.trans hc) with ⟨n, hn⟩ | hskip | ⟨B, mk, hBm, hgn, hsem⟩
  · rw [h1, hn] at hrun; exact (failR_sub hL hrun).elim
  · -- its guard does not let it
    rw [h1, hskip] at hrun
    have hsoft : ∀ b' ∈ chk done 0, SoftK H (b'.x.run r ((setB b.d).run T udV) H) := by
      intro b' hb'
      obtain ⟨g1, g2⟩ := chk_sub b' hb'
      obtain ⟨o', _, g3, _, g4, _⟩ := ord_cls hO (hp.mem b' g1)
      rw [g3]; exact soft_runG (g4.symm.trans g2)
    obtain ⟨_, hrun⟩ := recK_ok hL _ hsoft hrun
    have hT : ∀ t, t ≠ b.d → (getB t).run T = (getB t).run ((setB b.d).run T udV) := fun t ht => by rw [getB_setB, if_neg (fun h => ht h.1.symm)]
    have hTd : (getB b.d).run ((setB b.d).run T udV) = udV := by rw [getB_setB, if_pos ⟨rfl, hd.1⟩]
    have hrd : ∀ b', b' ∈ done ∨ b' = b → ∀ t ∈ b'.rd, (getB t).run T = (getB t).run ((setB b.d).run T udV) := fun b' hb' t ht => hT t fun e => no_read hO hp.split (by omega) hb' (e ▸ ht)
    have hdd : ∀ b' ∈ done, (getB b'.d).run T = (getB b'.d).run ((setB b.d).run T udV) := fun b' hb' => hT _ (Ne.symm (no_same hO hp.split (by omega) hb'))
    have hβ : ∀ b' ∈ done, (if b'.i = b.i then none else β b'.i) = β b'.i := fun b' hb' => if_neg (hne b' hb')
    refine ⟨(setB b.d).run T udV, H, fun i => if i = b.i then none else β i, ⟨by rw [hp.split]; simp, hrun, hp.hr, hp.ex, hp.size, by rw [marksT_setB]; exact hp.defers, ?_, ?_, ?_, ?_, ?_, ?_, ?_⟩⟩
    · intro b' hb' h2
      cases hb' with
      | head => omega
      | tail _ hb' => exact hp.hard b' hb' h2
    · intro i hi
      obtain ⟨b', h1, h2⟩ := hp.listed i hi
      exact ⟨b', List.mem_cons_of_mem _ h1, h2⟩
    · intro b' hb' hl
      cases hb' with
      | head => exact absurd hl hnl
      | tail _ hb' => exact hp.closed b' hb' hl
    · intro t ht
      rw [← hT t (fun e => ht b List.mem_cons_self (by omega) hnl e.symm)]
      exact hp.val t fun b' hb' => ht b' (List.mem_cons_of_mem _ hb')
    · intro b' hb' h0 hl c
      cases hb' with
      | head => omega
      | tail _ hb' => rw [← look_congr hO (hp.mem b' hb') (hrd b' (.inl hb')), ← hdd b' hb']; exact hp.look b' hb' h0 hl c
    · intro b' hb' k1 hl
      cases hb' with
      | head => exact .inl ⟨if_pos rfl, fun H c => by rw [← look_congr hO hbo (hrd b (.inr rfl)), h1, hskip, hTd]⟩
      | tail _ hb' =>
        simp only [hβ b' hb']
        exact make_keep (ls' := ls) hO hp hb' k1 hl (hrd b' (.inl hb')) (hdd b' hb') (fun p _ h _ => ⟨rfl, h⟩) (Nat.le_refl _)
    · intro b1 hb1 b2 hb2 k1 k2 l1 l2 y he1 he2
      cases hb1 with
      | head => simp at he1
      | tail _ hb1 => cases hb2 with
        | head => simp at he2
        | tail _ hb2 =>
          simp only [hβ b1 hb1] at he1
          simp only [hβ b2 hb2] at he2
          exact hp.apart b1 hb1 b2 hb2 k1 k2 l1 l2 y he1 he2
  rw [h1, hBm] at hrun
  unfold newC at hrun
  cases hb : nble H.n 32766
  · rw [hb] at hrun; exact (failR_sub hL hrun).elim
  rw [hb, bi_true] at hrun
  have hn := ble_true.1 hb
  have hs : (hnew H B).n = H.n + 1 := hnew_n _ _
  have hsoft : ∀ b' ∈ chk done 0, SoftK (hnew H B) (b'.x.run r ((setB b.d).run T (mk H.n)) (hnew H B)) := by
    intro b' hb'
    obtain ⟨g1, g2⟩ := chk_sub b' hb'
    obtain ⟨o', _, g3, _, g4, _⟩ := ord_cls hO (hp.mem b' g1)
    rw [g3]; exact soft_runG (g4.symm.trans g2)
  obtain ⟨hrec, hrun⟩ := recK_ok hL _ hsoft hrun
  obtain ⟨hr', hex'⟩ := hp.hr.early hn B
  have hT : ∀ t, t ≠ b.d → (getB t).run T = (getB t).run ((setB b.d).run T (mk H.n)) := fun t ht => by rw [getB_setB, if_neg (fun h => ht h.1.symm)]
  have hTd : (getB b.d).run ((setB b.d).run T (mk H.n)) = mk H.n := by rw [getB_setB, if_pos ⟨rfl, hd.1⟩]
  have hrd : ∀ b', b' ∈ done ∨ b' = b → ∀ t ∈ b'.rd, (getB t).run T = (getB t).run ((setB b.d).run T (mk H.n)) := fun b' hb' t ht => hT t fun e => no_read hO hp.split (by omega) hb' (e ▸ ht)
  have hdd : ∀ b' ∈ done, (getB b'.d).run T = (getB b'.d).run ((setB b.d).run T (mk H.n)) := fun b' hb' => hT _ (Ne.symm (no_same hO hp.split (by omega) hb'))
  have hβ : ∀ b' ∈ done, (if b'.i = b.i then some H.n else β b'.i) = β b'.i := fun b' hb' => if_neg (hne b' hb')
  refine ⟨(setB b.d).run T (mk H.n), hnew H B, fun i => if i = b.i then some H.n else β i, ⟨by rw [hp.split]; simp, hrun, hr', hp.ex.trans hex', hp.size, by rw [marksT_setB]; exact hp.defers, ?_, ?_, ?_, ?_, ?_, ?_, ?_⟩⟩
  · intro b' hb' h2
    cases hb' with
    | head => omega
    | tail _ hb' => exact hp.hard b' hb' h2
  · intro i hi
    obtain ⟨b', h1, h2⟩ := hp.listed i hi
    exact ⟨b', List.mem_cons_of_mem _ h1, h2⟩
  · intro b' hb' hl
    cases hb' with
    | head => exact absurd hl hnl
    | tail _ hb' => exact hp.closed b' hb' hl
  · intro t ht
    rw [← hT t (fun e => ht b List.mem_cons_self (by omega) hnl e.symm)]
    exact hp.val t fun b' hb' => ht b' (List.mem_cons_of_mem _ hb')
  · intro b' hb' h0 hl c
    cases hb' with
    | head => omega
    | tail _ hb' => exact hrec b' (chk_mem (S := Li ls) done hp.closed 0 (fun j h => by simp at h) b' hb' h0 hl) c
  · intro b' hb' k1 hl
    cases hb' with
    | head =>
      refine .inr ⟨H.n, o, B, mk, if_pos rfl, ho, ⟨hgn.1.congr fun t ht => hrd b (.inr rfl) t (by rw [h2, appL_eq]; exact List.mem_append_left _ ht), hgn.2⟩, SemN.congr hsem fun t ht => hrd b (.inr rfl) t (by rw [h2, appL_eq]; exact List.mem_append_right _ ht), fun H c => ?_, hTd, ?_, ?_, ?_, ?_⟩
      · rw [← look_congr hO hbo (hrd b (.inr rfl)), h1]; exact hBm H c
      · rw [hget_hnew (by omega) (by omega), if_pos rfl]
      · cases hφ : φ H.n with
        | none => rfl
        | some x => exact absurd (hp.hr.blk _ _ hφ).1 (by omega)
      · omega
      · exact hp.ex.n
    | tail _ hb' =>
      simp only [hβ b' hb']
      exact make_keep (ls' := ls) hO hp hb' k1 hl (hrd b' (.inl hb')) (hdd b' hb') (fun p hlt h _ => ⟨by rw [hget_hnew (by omega) (by omega), if_neg (by omega)], h⟩) (by omega)
  · intro b1 hb1 b2 hb2 k1 k2 l1 l2 y he1 he2
    have hlt : ∀ b' ∈ done, b'.cls = 1 → ¬ Li ls b'.i → ∀ y, β b'.i = some y → y < H.n := fun b' hb' c1 c2 y hy => by
      rcases hp.make b' hb' c1 c2 with ⟨e0, _⟩ | ⟨y', _, _, _, e0, _, _, _, _, _, _, _, e8, _⟩
      · rw [e0] at hy; cases hy
      · rw [e0] at hy; cases hy; exact e8
    cases hb1 with
    | head => cases hb2 with
      | head => rfl
      | tail _ hb2 =>
        simp only [if_pos] at he1
        simp only [hβ b2 hb2] at he2
        cases he1
        exact absurd (hlt b2 hb2 k2 l2 _ he2) (by omega)
    | tail _ hb1 => cases hb2 with
      | head =>
        simp only [if_pos] at he2
        simp only [hβ b1 hb1] at he1
        cases he2
        exact absurd (hlt b1 hb1 k1 l1 _ he1) (by omega)
      | tail _ hb2 =>
        simp only [hβ b1 hb1] at he1
        simp only [hβ b2 hb2] at he2
        exact hp.apart b1 hb1 b2 hb2 k1 k2 l1 l2 y he1 he2
/-- on to the next that may do more -/
theorem Pre.advance (hO : OrdOk P N all ord) (hL : AllOk L) : ∀ (rest done : List DI) (T : Fr) (H : Hp) (β : Nat → Option Nat), Pre P w0 r N H0 φ0 L all k ord ls a w done rest T H φ β →
    ∃ done' rest' T' H' β', Pre P w0 r N H0 φ0 L all k ord ls a w done' rest' T' H' φ β' ∧ ∀ h l, rest' = h :: l → h.cls = 2 := by
  intro rest
  induction rest with
  | nil => intro done T H β hp; exact ⟨done, [], T, H, β, hp, fun h l e => by cases e⟩
  | cons b rest ih =>
    intro done T H β hp
    rcases ord_le2 hO (show b ∈ ord by rw [hp.split]; simp) with h | h | h
    · obtain ⟨T', hp'⟩ := hp.soft hO hL h
      exact ih _ _ _ _ hp'
    · obtain ⟨T', H', β', hp'⟩ := hp.new hO hL h
      exact ih _ _ _ _ hp'
    · exact ⟨done, b :: rest, T, H, β, hp, fun h' l e => by cases e; exact h⟩
end steps
end Go.Eng
