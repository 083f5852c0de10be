/- A part of the proof that the evaluator in GnC, and the driver in GnZ, answer as the model does; no conditions. -/
import Derived.Test.YtfbgcggkgelaaaaGreatDoorGnZS
namespace Go.Eng
open Go.RowKit
variable {P : Program} {w0 : World} {H Hb : Hp} {φ φ0 : Ph} {w : World} {N : Nat} {T : Fr} {a : Act}

theorem know_tr {o : Operand} {b : Bool} (ht : TR P φ N T a) (h8 : ((getO P o).run T).tag = 8) (hp : ((getO P o).run T).p = bi b 1 0) : TR P φ N (knowO o b T) a := by
  cases o with
  | tmp t =>
    unfold knowO
    show TR P φ N (bi (nble (Nat.succ t) 511) _ _) a
    cases hb : nble (Nat.succ t) 511
    · exact ht
    · refine ⟨ht.size, ?_, by rw [bi_true, marksT_setB]; exact ht.defers, ht.gl⟩
      intro t'
      rw [bi_true, getB_setB]
      by_cases he : t = t'
      · subst he
        rw [if_pos ⟨rfl, ble_true.1 hb⟩]
        obtain ⟨b', e, e1, _⟩ := (ht.val t).of_bool h8
        rw [e]
        have : b' = b := by
          have h1 : bi b' 1 0 = bi b 1 0 := e1.symm.trans hp
          cases b <;> cases b' <;> first | rfl | cases h1
        subst this
        exact vr_bool _
      · rw [if_neg (fun h => he h.1)]; exact ht.val t'
  | _ => exact ht
theorem cl0_vr {φ' : Ph} {v : AV} {val : Value} (h : cl0 v = true) (hv : VR φ v val) (hz : φ'.fz = φ.fz) : VR φ' v val := by
  unfold cl0 at h
  rcases bi_or.1 h with h | h
  · have := ble_true.1 h
    cases hv with
    | int c p r s cs e1 e2 => exact .int c p r s cs e1 e2
    | bool b r s cs => exact .bool b r s cs
    | str l r s cs => exact .str l r s cs
    | _ => simp only at this; omega
  rcases bi_or.1 h with h | h
  · have := beq_true.1 h
    cases hv with
    | nilp q r s cs => exact .nilp q r s cs
    | nils q r s cs => exact .nils q r s cs
    | nilm q r s cs => exact .nilm q r s cs
    | nilf q r s cs => exact .nilf q r s cs
    | nili q r s cs => exact .nili q r s cs
    | int c p r s cs e1 e2 => simp only at this; omega
    | _ => simp only at this; omega
  rcases bi_or.1 h with h | h
  · have := beq_true.1 h
    cases hv with
    | frz p q r s cs _ h => exact .frz p q r s cs _ (hz ▸ h)
    | int c p r s cs e1 e2 => simp only at this; omega
    | _ => simp only at this; omega
  rcases bi_or.1 h with h | h
  · have := beq_true.1 h
    cases hv with
    | fptr p q r s cs _ h => exact .fptr p q r s cs _ (hz ▸ h)
    | int c p r s cs e1 e2 => simp only at this; omega
    | _ => simp only at this; omega
  · obtain ⟨h1, h2⟩ := bi_and.1 h
    have h1 := beq_true.1 h1
    have h2 := beq_true.1 h2
    rw [lenL_eq] at h2
    cases hv with
    | fn f n r s cs first cap hcs hl =>
      have hc : cs = [] := List.length_eq_zero_iff.1 h2
      subst hc
      have h3 := hcs.length
      have e1 : first = [] := List.length_eq_zero_iff.1 (by simp at h3; omega)
      have e2 : cap = [] := List.length_eq_zero_iff.1 (by simp at h3; omega)
      subst e1 e2
      exact .fn f n r s [] [] [] .nil hl
    | int c p r s cs e1 e2 => simp only at h1; omega
    | _ => simp only at h1; omega
theorem cl0s_vr {φ' : Ph} {cs : List AV} (hz : φ'.fz = φ.fz) : ∀ {vs : List Value}, allL cl0 cs = true → VRs φ cs vs → VRs φ' cs vs := by
  induction cs with
  | nil => intro vs _ h; cases h; exact .nil
  | cons c cs ih =>
    intro vs h hv
    obtain ⟨h1, h2⟩ := bi_and.1 (show bi (cl0 c) (allL cl0 cs) false = true from h)
    cases hv with | cons g1 g2 => exact .cons (cl0_vr h1 g1 hz) (ih h2 g2)
theorem closed_vr {φ' : Ph} {v : AV} {val : Value} (h : closedV v = true) (hv : VR φ v val) (hz : φ'.fz = φ.fz) : VR φ' v val := by
  rcases bi_or.1 h with h | h
  · exact cl0_vr h hv hz
  · obtain ⟨h1, h2⟩ := bi_and.1 h
    rcases bi_or.1 h1 with e | e
    · have := beq_true.1 e
      cases hv with
      | agg p q r s cs l hcs ho => exact .agg p q r s cs l (cl0s_vr hz h2 hcs) ho
      | int c p r s cs e1 e2 => simp only at this; omega
      | _ => simp only at this; omega
    · have := beq_true.1 e
      cases hv with
      | tup p q r s cs l hcs => exact .tup p q r s cs l (cl0s_vr hz h2 hcs)
      | int c p r s cs e1 e2 => simp only at this; omega
      | _ => simp only at this; omega
/-- on the way into a label -/
structure Ent (P : Program) (w0 : World) (N : Nat) (Hb H : Hp) (φ0 φ : Ph) (a : Act) (w : World) (T1 : Fr) (H1 : Hp) (φ1 : Ph) (Q : List Nat) : Prop where
  hr : HR P w0 H1 φ1 w
  ex : EX Hb φ0 H1 φ1
  val : ∀ t, VR φ1 ((getB t).run T1) (a.tmps.getD t undef)
  marks : marksT T1 = []
  fz : φ1.fz = φ.fz
  k : φ1.k = φ.k
  lim : H1.lim = Hb.n
  n : Hb.n ≤ H1.n
  from_ : ∀ b x, φ1 b = some x → (hget H1 b).kind ≠ 0 → b < Hb.n ∨ ∃ q ∈ Q, φ q = some x ∧ (hget H q).kind ≠ 0
  low : ∀ b, b < Hb.n → φ1 b = φ b
theorem ownQ_cons {tm : Nat × Nat} {live : List (Nat × Nat)} : ownQs T (tm :: live) = ownQ T tm ++ ownQs T live := appL_eq _ _
theorem memQ_eq {n : Nat} {l : List Nat} : memQ n l = true ↔ n ∈ l := by
  induction l with
  | nil => simp [memQ]
  | cons a l ih =>
    show bi (nbeq a n) true (memQ n l) = true ↔ _
    rw [bi_or, ih, beq_true, List.mem_cons]
    exact ⟨fun h => h.imp Eq.symm id, fun h => h.imp Eq.symm id⟩
theorem nodupQ_ok {l : List Nat} (h : nodupQ l = true) : l.Nodup := by
  induction l with
  | nil => exact List.nodup_nil
  | cons a l ih =>
    have h' : bi (memQ a l) false (nodupQ l) = true := h
    cases hm : memQ a l
    · rw [hm, bi_false] at h'
      exact List.nodup_cons.2 ⟨(fun hc => by rw [memQ_eq.2 hc] at hm; cases hm), ih h'⟩
    · rw [hm] at h'; cases h'
theorem enter_ok {L : RL} {c : Fr → Hp → RL} (hL : AllOk L) (hs : St P w0 N Hb φ0 T H φ a w) (hlim : Hb.lim = Hb.n) : ∀ (live : List (Nat × Nat)) (ds : List AV) (T1 : Fr) (H1 : Hp) (φ1 : Ph) (Q : List Nat), slotsB live = true → hookL T H live = some ds → (Q ++ ownQs T live).Nodup →
    Ent P w0 N Hb H φ0 φ a w T1 H1 φ1 Q → (∀ x ∈ enterY live ds T1 H1 c, x ∈ L) → ∃ T' H' φ' Q', Ent P w0 N Hb H φ0 φ a w T' H' φ' Q' ∧ ∀ x ∈ c T' H', x ∈ L := by
  intro live
  induction live with
  | nil =>
    intro ds T1 H1 φ1 Q _ h hq he hsub
    have h' : some ([] : List AV) = some ds := h
    cases h'
    exact ⟨T1, H1, φ1, Q, he, hsub⟩
  | cons tm live ih =>
    intro ds T1 H1 φ1 Q hsl0 h hq he hsub
    obtain ⟨t, m⟩ := tm
    obtain ⟨ht, hsl⟩ := bi_and.1 (show bi (nble (Nat.succ t) 511) (slotsB live) false = true from hsl0)
    have ht := ble_true.1 ht
    obtain ⟨d, hd, h⟩ := om_none' (show om (hook1 T H (t, m)) none (fun v => om (hookL T H live) none fun l => some (v :: l)) = some ds from h)
    obtain ⟨ds', hds, h⟩ := om_none' h
    cases h
    have hval : ∀ (φ2 : Ph) (v : AV), Le φ1 φ2 → VR φ2 v (a.tmps.getD t undef) → ∀ t', VR φ2 ((getB t').run ((setB t).run T1 v)) (a.tmps.getD t' undef) := by
      intro φ2 v hle hv t'
      rw [getB_setB]
      by_cases e : t = t'
      · subst e; rw [if_pos ⟨rfl, ht⟩]; exact hv
      · rw [if_neg (fun h => e h.1)]; exact (he.val t').mono hle
    cases m with
    | zero =>
      obtain ⟨hc, hd⟩ := bi_none' (show bi (closedV ((getB t).run T)) (some ((getB t).run T)) none = some d from hd)
      cases hd
      have hq' : (Q ++ ownQs T live).Nodup := by
        rw [ownQ_cons] at hq; exact hq
      exact ih ds' _ H1 φ1 Q hsl hds hq' ⟨he.hr, he.ex, hval φ1 _ (Le.refl φ1) (closed_vr hc (hs.tr.val t) he.fz), by rw [marksT_setB]; exact he.marks, he.fz, he.k, he.lim, he.n, he.from_, he.low⟩ hsub
    | succ m =>
      have hsub0 : ∀ x ∈ bi (nble 999 m) (enterY live ds' ((setB t).run T1 d) H1 c) (bi (nbeq m 99) (bi (nble H1.n 32766) (enterY live ds' ((setB t).run T1 ⟨10, H1.n, 0, 0, 0, []⟩) (hnew H1 ⟨1, d.q, d.r, d.cs⟩) c) (failR 242)) (bi (nble H1.n 32766) (enterY live ds' ((setB t).run T1 ⟨25, d.p, H1.n, lenL d.cs, 0, []⟩) (hnew H1 ⟨6, m, 0, d.cs⟩) c) (failR 242))), x ∈ L := hsub
      have hd0 : bi (nble 999 m) (bi (closedV ((getB t).run T)) (some ((getB t).run T)) none) (bi (nbeq m 99) (hookBox H ((getB t).run T)) (bi (nbeq ((getB t).run T).tag 25) (bi (nbeq (hget H ((getB t).run T).q).kind 6) (bi (nbeq (hget H ((getB t).run T).q).t m) (bi (nble (Nat.succ ((getB t).run T).q) H.n) (bi (nble H.lim ((getB t).run T).q) (some ⟨16, ((getB t).run T).p, 0, 0, 0, takeN ((getB t).run T).r (hget H ((getB t).run T).q).cs⟩) none) none) none) none)
        (bi (isNil ((getB t).run T) 1) (some ⟨16, 0, 0, 0, 0, []⟩) (bi (nbeq ((getB t).run T).tag 11) (bi (nbeq ((getB t).run T).r 0) (bi (nbeq ((getB t).run T).s 1) (some ⟨16, 2, 0, 0, 0, []⟩) none) none) none)))) = some d := hd
      cases hm999 : nble 999 m
      case true =>
        rw [hm999, bi_true] at hsub0 hd0
        obtain ⟨hc, hd0⟩ := bi_none' hd0
        cases hd0
        have hq' : (Q ++ ownQs T live).Nodup := by
          have e : ownQ T (t, m + 1) = [] := by
            show bi (nbeq (m + 1) 0) [] (bi (nble 1000 (m + 1)) [] _) = _
            rw [show nble 1000 (m + 1) = true from ble_true.2 (by have := ble_true.1 hm999; omega)]
            rfl
          rw [ownQ_cons, e] at hq; exact hq
        exact ih ds' _ H1 φ1 Q hsl hds hq' ⟨he.hr, he.ex, hval φ1 _ (Le.refl φ1) (closed_vr hc (hs.tr.val t) he.fz), by rw [marksT_setB]; exact he.marks, he.fz, he.k, he.lim, he.n, he.from_, he.low⟩ hsub0
      rw [hm999, bi_false] at hsub0 hd0
      have hm1000 : nble 1000 (m + 1) = false := by
        rw [← Bool.not_eq_true, ble_true]
        have : ¬ 999 ≤ m := fun h => by rw [ble_true.2 h] at hm999; cases hm999
        omega
      cases hm99 : nbeq m 99
      case true =>
        rw [hm99, bi_true] at hsub0 hd0
        have hm := beq_true.1 hm99
        subst hm
        cases hn : nble H1.n 32766
        · rw [hn] at hsub0; exact (failR_sub hL hsub0).elim
        rw [hn, bi_true] at hsub0
        have hn := ble_true.1 hn
        have hvt := hs.tr.val t
        have hoq : ownQ T (t, 99 + 1) = [((getB t).run T).p] := rfl
        generalize hv : (getB t).run T = v at hd0 hvt hoq
        unfold hookBox at hd0
        obtain ⟨h10, hd0⟩ := bi_none' hd0
        obtain ⟨hq0, hd0⟩ := bi_none' hd0
        obtain ⟨hk1, hd0⟩ := bi_none' hd0
        obtain ⟨hpn, hd0⟩ := bi_none' hd0
        obtain ⟨hpl, hd0⟩ := bi_none' hd0
        obtain ⟨hcl, hd0⟩ := bi_none' hd0
        cases hd0
        have hk1 := beq_true.1 hk1
        have hpn : v.p < H.n := ble_true.1 hpn
        have hpl := ble_true.1 hpl
        have hq0 := beq_true.1 hq0
        obtain ⟨x, hval1, hx⟩ := hvt.of_ptr (beq_true.1 h10)
        rw [hq0] at hval1
        rw [ownQ_cons, hoq] at hq
        have hlimH : H.lim = Hb.n := hs.ex.lim.trans hlim
        have hdead : ∀ b, φ1 b = some x → (hget H1 b).kind = 0 := by
          intro b hb
          cases hz : decide ((hget H1 b).kind = 0) with
          | true => exact of_decide_eq_true hz
          | false =>
            exfalso
            have hz := of_decide_eq_false hz
            rcases he.from_ b x hb hz with hlt | ⟨q, hqQ, hqx, hqk⟩
            · have hφb : φ b = some x := by rw [← he.low b hlt]; exact hb
              have hbn : b < 32768 := by have := hs.hr.n; have := (hs.hr.blk b x hφb).1; omega
              have e1 : hget H1 b = hget Hb b := he.ex.low b (by omega) hbn
              have e2 : hget H b = hget Hb b := hs.ex.low b (by omega) hbn
              have := hs.hr.inj b v.p x hφb hx (by rw [e2, ← e1]; exact hz) (by omega)
              omega
            · have := hs.hr.inj q v.p x hqx hx hqk (by omega)
              subst this
              rw [List.nodup_append] at hq
              exact hq.2.2 _ hqQ _ (by simp) rfl
        have hbase := (hs.hr.blk _ _ hx).2.1 hpl
        have hnf : φ1.fz x = none := by rw [he.fz]; exact hs.hr.live hx hpl (by omega) (by omega)
        obtain ⟨_, _, o, ho, hB0⟩ := hs.hr.blk _ _ hx
        obtain ⟨l, rest, ty, rfl, b1, b2, b3⟩ := hB0.cells hk1
        have hB : BRel P φ1 x ⟨1, (hget H v.p).t, (hget H v.p).e, (hget H v.p).cs⟩ (.cells (l ++ rest).toArray ty) := by
          refine ⟨fun _ => ⟨l, rest, ty, rfl, cl0s_vr he.fz hcl b1, b2, fun h0 => ?_⟩, (fun h => by cases h), (fun h => by cases h), (fun h => by have h' : 4 ≤ 1 := h; omega)⟩
          show _ = φ1.k x * (hget H v.p).t
          rw [he.k]; exact b3 h0
        obtain ⟨g3, g4⟩ := he.hr.alias hn hdead (.inl hnf) hbase ho hB
        have hnm : ∀ b, b < H1.n → hget (hnew H1 ⟨1, (hget H v.p).t, (hget H v.p).e, (hget H v.p).cs⟩) b = hget H1 b := fun b hb => by rw [hget_hnew (by omega) (by omega), if_neg (by omega)]
        refine ih ds' _ _ _ (Q ++ [v.p]) hsl hds (by rw [List.append_assoc]; exact hq) ⟨g3, he.ex.trans g4, hval _ _ g4.keep ?_, by rw [marksT_setB]; exact he.marks, he.fz, he.k, he.lim, (hnew_n _ _).symm ▸ Nat.le_succ_of_le he.n, ?_, ?_⟩ hsub0
        · rw [hval1]
          exact .ptr H1.n x 0 0 0 [] (if_pos rfl)
        · intro b y hb hk
          by_cases hbn : b = H1.n
          · subst hbn
            have hb' : (if H1.n = H1.n then some x else φ1 H1.n) = some y := hb
            rw [if_pos rfl] at hb'
            cases hb'
            exact .inr ⟨v.p, by simp, hx, by omega⟩
          · have hb' : (if b = H1.n then some x else φ1 b) = some y := hb
            rw [if_neg hbn] at hb'
            rw [hnm b (he.hr.blk b y hb').1] at hk
            rcases he.from_ b y hb' hk with h | ⟨q, h1, h2⟩
            · exact .inl h
            · exact .inr ⟨q, List.mem_append_left _ h1, h2⟩
        · intro b hb
          show (if b = H1.n then some x else φ1 b) = φ b
          rw [if_neg (by have := he.n; omega)]
          exact he.low b hb
      rw [hm99, bi_false] at hsub0 hd0
      have hm100 : nbeq (m + 1) 100 = false := by
        have := beq_false.1 hm99
        exact beq_false.2 (by omega)
      have hsub' : ∀ x ∈ bi (nble H1.n 32766) (enterY live ds' ((setB t).run T1 ⟨25, d.p, H1.n, lenL d.cs, 0, []⟩) (hnew H1 ⟨6, m, 0, d.cs⟩) c) (failR 242), x ∈ L := hsub0
      cases hn : nble H1.n 32766
      · rw [hn] at hsub'; exact (failR_sub hL hsub').elim
      rw [hn, bi_true] at hsub'
      have hn := ble_true.1 hn
      have hd' : bi (nbeq ((getB t).run T).tag 25) (bi (nbeq (hget H ((getB t).run T).q).kind 6) (bi (nbeq (hget H ((getB t).run T).q).t m) (bi (nble (Nat.succ ((getB t).run T).q) H.n) (bi (nble H.lim ((getB t).run T).q) (some ⟨16, ((getB t).run T).p, 0, 0, 0, takeN ((getB t).run T).r (hget H ((getB t).run T).q).cs⟩) none) none) none) none)
        (bi (isNil ((getB t).run T) 1) (some ⟨16, 0, 0, 0, 0, []⟩) (bi (nbeq ((getB t).run T).tag 11) (bi (nbeq ((getB t).run T).r 0) (bi (nbeq ((getB t).run T).s 1) (some ⟨16, 2, 0, 0, 0, []⟩) none) none) none)) = some d := hd0
      have hvt := hs.tr.val t
      generalize hv : (getB t).run T = v at hd' hvt
      have hnm : ∀ b, b < H1.n → hget (hnew H1 ⟨6, m, 0, d.cs⟩) b = hget H1 b := fun b hb => by rw [hget_hnew (by omega) (by omega), if_neg (by omega)]
      -- a list without a block of the world
      have virt : VR φ1 ⟨25, d.p, H1.n, lenL d.cs, 0, []⟩ (a.tmps.getD t undef) → (Q ++ ownQs T live).Nodup → ∃ T' H' φ' Q', Ent P w0 N Hb H φ0 φ a w T' H' φ' Q' ∧ ∀ x ∈ c T' H', x ∈ L := by
        intro hvr hq'
        obtain ⟨g1, g2⟩ := he.hr.early hn ⟨6, m, 0, d.cs⟩
        exact ih ds' _ _ φ1 Q hsl hds hq' ⟨g1, he.ex.trans g2, hval φ1 _ (Le.refl φ1) hvr, by rw [marksT_setB]; exact he.marks, he.fz, he.k, he.lim, (hnew_n _ _).symm ▸ Nat.le_succ_of_le he.n, fun b x hb hk => he.from_ b x hb (by rwa [hnm b (he.hr.blk b x hb).1] at hk), he.low⟩ hsub'
      cases h25 : nbeq v.tag 25
      · rw [h25, bi_false] at hd'
        have hq' : (Q ++ ownQs T live).Nodup := by
          rw [ownQ_cons] at hq
          exact hq.sublist (List.Sublist.append_left (List.sublist_append_right _ _) Q)
        cases hnil : isNil v 1
        · rw [hnil, bi_false] at hd'
          obtain ⟨h11, hd'⟩ := bi_none' hd'
          obtain ⟨hr0, hd'⟩ := bi_none' hd'
          obtain ⟨hs1, hd'⟩ := bi_none' hd'
          cases hd'
          have hr0 := beq_true.1 hr0
          have hs1 := beq_true.1 hs1
          obtain ⟨x, cap, e1, _, _, _, e2, _⟩ := hvt.of_sl (beq_true.1 h11)
          rw [hs1] at e2
          have e3 : cap = 0 := e2 rfl
          rw [hr0, e3] at e1
          refine virt ?_ hq'
          rw [e1]
          exact .owne _ _ _ _
        · rw [hnil, bi_true] at hd'
          cases hd'
          have := hvt.isNil hnil
          simp only at this
          exact virt (by rw [this]; exact .ownn _ _ _) hq'
      · rw [h25, bi_true] at hd'
        obtain ⟨h6, hd'⟩ := bi_none' hd'
        obtain ⟨htm, hd'⟩ := bi_none' hd'
        obtain ⟨hqn, hd'⟩ := bi_none' hd'
        obtain ⟨hql, hd'⟩ := bi_none' hd'
        cases hd'
        have h6 := beq_true.1 h6
        have htm := beq_true.1 htm
        have hqn : v.q < H.n := ble_true.1 hqn
        have hql := ble_true.1 hql
        have htag := beq_true.1 h25
        have hoq : ownQ T (t, m + 1) = [v.q] := by
          show bi (nbeq (m + 1) 0) [] (bi (nble 1000 (m + 1)) [] (bi (nbeq (m + 1) 100) [((getB t).run T).p] (bi (nbeq ((getB t).run T).tag 25) [((getB t).run T).q] []))) = _
          rw [hm1000, hm100, hv, h25]; rfl
        rw [ownQ_cons, hoq] at hq
        have hq' : (Q ++ ownQs T live).Nodup := hq.sublist (List.Sublist.append_left (List.sublist_append_right _ _) Q)
        rw [takeN_eq] at hsub' hnm virt
        by_cases hp1 : v.p = 1
        · obtain ⟨x, hx, g1, g2, hval1⟩ := hvt.of_own htag hp1
          have hL' : isL (hget H v.q) = true := by unfold isL; rw [beq_true.2 h6]; rfl
          obtain ⟨l, rest, ty, fr, ho, k1, k2, k3, k4, k5, k6, k7⟩ := hs.hr.list hx hL'
          have := k3 h6; subst this
          rw [htm] at k2 k4 k6
          have htl : ((hget H v.q).cs.take v.r).length = v.r := by rw [List.length_take]; omega
          have hlimH : H.lim = Hb.n := hs.ex.lim.trans hlim
          have hll : l.length = (hget H v.q).cs.length * m := by rw [← k1.length, flatL_len k2]
          have hle : v.r * m ≤ (hget H v.q).cs.length * m := Nat.mul_le_mul_right _ (by omega)
          have hdead : ∀ b, φ1 b = some x → (hget H1 b).kind = 0 := by
            intro b hb
            cases hz : decide ((hget H1 b).kind = 0) with
            | true => exact of_decide_eq_true hz
            | false =>
              exfalso
              have hz := of_decide_eq_false hz
              rcases he.from_ b x hb hz with hlt | ⟨q, hqQ, hqx, hqk⟩
              · have hφb : φ b = some x := by rw [← he.low b hlt]; exact hb
                have hbn : b < 32768 := by have := hs.hr.n; have := (hs.hr.blk b x hφb).1; omega
                have e1 : hget H1 b = hget Hb b := he.ex.low b (by omega) hbn
                have e2 : hget H b = hget Hb b := hs.ex.low b (by omega) hbn
                have := hs.hr.inj b v.q x hφb hx (by rw [e2, ← e1]; exact hz) (by omega)
                omega
              · have := hs.hr.inj q v.q x hqx hx hqk (by omega)
                subst this
                rw [List.nodup_append] at hq
                exact hq.2.2 _ hqQ _ (by simp) rfl
          have hbase := (hs.hr.blk _ _ hx).2.1 hql
          have hnf : φ1.fz x = none := by rw [he.fz]; exact hs.hr.live hx hql (by omega) (by omega)
          have hB : BRel P φ1 x ⟨6, m, 0, (hget H v.q).cs.take v.r⟩ (.cells (l.take (v.r * m) ++ (l.drop (v.r * m) ++ rest)).toArray ty) := by
            refine ⟨(fun h => by cases h), (fun h => by cases h), (fun h => by cases h), fun _ => .inr (.inr ⟨.inl rfl, l.take (v.r * m), l.drop (v.r * m) ++ rest, ty, (0, 0), rfl, ?_, fun a ha => k2 a (List.mem_of_mem_take ha), fun _ => rfl, ?_, ?_, k6⟩)⟩
            · rw [he.fz]
              show FZs φ.fz (flatL ((hget H v.q).cs.take v.r)) _
              rw [← flatL_take k2]; exact k1.take _
            · show _ = φ1.k x * m
              rw [he.k, ← k4, ← List.append_assoc, List.take_append_drop]
            · show ((hget H v.q).cs.take v.r).length < 2 ^ 40
              omega
          rw [← List.append_assoc, List.take_append_drop] at hB
          obtain ⟨g3, g4⟩ := he.hr.alias hn hdead (.inl hnf) hbase ho hB
          have hk' : (φ1.name H1.n x ((hget H v.q).cs.take v.r).length).k = φ.k := he.k
          refine ih ds' _ _ _ (Q ++ [v.q]) hsl hds (by rw [List.append_assoc]; exact hq) ⟨g3, he.ex.trans g4, hval _ _ g4.keep ?_, by rw [marksT_setB]; exact he.marks, he.fz, he.k, he.lim, (hnew_n _ _).symm ▸ Nat.le_succ_of_le he.n, ?_, ?_⟩ hsub'
          · rw [hval1, lenL_eq, htl, hp1]
            have := VR.own (φ := φ1.name H1.n x v.r) H1.n x v.r 0 [] (if_pos rfl) (by show v.r ≤ (if H1.n = H1.n then v.r else _); rw [if_pos rfl]; exact Nat.le_refl _) (by
              show (if H1.n = H1.n then v.r else _) ≤ φ1.k x
              rw [if_pos rfl, he.k]; omega)
            have e : (φ1.name H1.n x v.r).k x = φ.k x := by rw [← he.k]; rfl
            rw [e] at this
            rw [htl] at *
            exact this
          · intro b y hb hk
            by_cases hbn : b = H1.n
            · subst hbn
              have hb' : (if H1.n = H1.n then some x else φ1 H1.n) = some y := hb
              rw [if_pos rfl] at hb'
              cases hb'
              exact .inr ⟨v.q, by simp, hx, by omega⟩
            · have hb' : (if b = H1.n then some x else φ1 b) = some y := hb
              rw [if_neg hbn] at hb'
              rw [hnm b (he.hr.blk b y hb').1] at hk
              rcases he.from_ b y hb' hk with h | ⟨q, h1, h2⟩
              · exact .inl h
              · exact .inr ⟨q, List.mem_append_left _ h1, h2⟩
          · intro b hb
            show (if b = H1.n then some x else φ1 b) = φ b
            rw [if_neg (by have := he.n; omega)]
            exact he.low b hb
        · have key : ∃ base, a.tmps.getD t undef = .slice base 0 0 ∧ v.r = 0 ∧ ((v.p = 0 ∧ base = none) ∨ (v.p = 2 ∧ ∃ a, base = some a)) := by
            generalize a.tmps.getD t undef = val at hvt
            cases hvt <;> first | exact absurd rfl hp1 | exact ⟨_, rfl, rfl, .inl ⟨rfl, rfl⟩⟩ | exact ⟨_, rfl, rfl, .inr ⟨rfl, _, rfl⟩⟩ | (simp only at htag; omega)
          obtain ⟨base, e1, hr0, hp⟩ := key
          rw [hr0, List.take_zero] at virt hsub' hnm
          refine virt ?_ hq'
          rw [e1]
          rcases hp with ⟨e2, rfl⟩ | ⟨e2, ad, rfl⟩
          · rw [e2]; exact .ownn _ _ _
          · rw [e2]; exact .owne _ _ _ _
end Go.Eng
