/- A part of the proof that the evaluator in GnC, and the driver in GnZ, answer as the model does; no conditions. -/
import Derived.Test.YtfbgcggkgelaaaaGreatDoorGnY6
namespace Go.Eng
open Go.RowKit
variable {P : Program} {w0 : World} {H : Hp} {φ : Ph} {c : Kont} {w : World}

/-! ### every operation but the calls -/
def OpC.ev (x : OpC) (ρA : Operand → AV) (H : Hp) (c : Kont) : RL := match x with
  | .c0 f => f.run H c
  | .c1 x f => f.run (ρA x) H c
  | .c2 x y f => f.run (ρA x) (ρA y) H c
  | .c3 x y z f => f.run (ρA x) (ρA y) (ρA z) H c
  | .cN xs f => f.run (xs.map ρA) H c
  | .call _ _ => failR 0
def ExecY (P : Program) (ρ : Operand → Value) (o : Oper) (w : World) (v : Value) (w' : World) : Prop :=
  (execOp ρ o).run P w = .ok (.value v) w' ∨ ((execOp ρ o).run P w = .ok .skip w' ∧ v = undef)
theorem Out.imp {Y Y' : Value → World → Prop} {L : RL} (h : Out P w0 Y H φ L c) (hi : ∀ v w', Y v w' → Y' v w') : Out P w0 Y' H φ L c := by
  obtain ⟨H', v, φ', val, w', h1, h2, h3⟩ := h
  exact ⟨H', v, φ', val, w', h1, hi _ _ h2, h3⟩
theorem badC_ev {n : Nat} {ρA : Operand → AV} (h : AllOk ((badC n).ev ρA H c)) : False := failR_bad h
theorem om_bad {α : Type} {o : Option α} {n : Nat} {f : α → OpC} {ρA : Operand → AV} (h : AllOk ((om o (badC n) f).ev ρA H c)) : ∃ a, o = some a := by
  cases o with
  | none => exact (badC_ev h).elim
  | some a => exact ⟨a, rfl⟩
theorem bi_bad {b : Bool} {n : Nat} {f : OpC} {ρA : Operand → AV} (h : AllOk ((bi b f (badC n)).ev ρA H c)) : b = true := by
  cases b
  · exact (badC_ev h).elim
  · rfl
theorem value_of {ρ : Operand → Value} {o : Oper} {s : Sem Value} {v : Value} {w' : World} (he : execOp ρ o = (do pure (.value (← s)))) (h : s.run P w = .ok v w') : ExecY P ρ o w v w' := by
  left
  rw [he]
  simp only [Sem.run_bind, h, Result.andThen_ok, Sem.run_pure']
theorem skip_of {ρ : Operand → Value} {o : Oper} {s : Sem Unit} {v : Value} {w' : World} (he : execOp ρ o = (do s; pure .skip)) (h : s.run P w = .ok () w') (hv : v = undef) : ExecY P ρ o w v w' := by
  right
  rw [he]
  simp only [Sem.run_bind, h, Result.andThen_ok, Sem.run_pure']
  exact ⟨trivial, hv⟩
section ops
variable {ρA : Operand → AV} {ρ : Operand → Value} {o : Oper}
theorem vrs_map (hρ : ∀ x, VR φ (ρA x) (ρ x)) (l : List Operand) : VRs φ (l.map ρA) (l.map ρ) := by
  induction l with
  | nil => exact .nil
  | cons x l ih => exact .cons (hρ x) ih
theorem zip_parts (l : List (Nat × Operand)) : (l.map fun p => (p.1, ρ p.2)) = (l.map (·.1)).zip ((l.map (·.2)).map ρ) := by
  induction l with
  | nil => rfl
  | cons x l ih => simp only [List.map_cons, List.zip_cons_cons, ih]
theorem op_move (hρ : ∀ x, VR φ (ρA x) (ρ x)) (hr : HR P w0 H φ w) {x : Operand} (ho : o.op = .move x ∨ o.op = .assign x) : Out P w0 (ExecY P ρ o w) H φ ((OpC.c1 x moveC).ev ρA H c) c :=
  Out.same hr (hρ x) (.inl (by rcases ho with h | h <;> simp only [execOp, h] <;> rfl))
theorem op_box (hρ : ∀ x, VR φ (ρA x) (ρ x)) (hr : HR P w0 H φ w) {t : TypeId} {x : Operand} (ho : o.op = .box t x) (hok : AllOk ((opOf P o).ev ρA H c)) : Out P w0 (ExecY P ρ o w) H φ ((opOf P o).ev ρA H c) c := by
  simp only [opOf, ho] at hok ⊢
  exact (box_out (P := P) (t := t) (hρ x) hr hok).imp fun v w' h => value_of (s := Instr.box t (ρ x)) (by simp only [execOp, ho]) h
theorem op_pick (hρ : ∀ x, VR φ (ρA x) (ρ x)) (hr : HR P w0 H φ w) {a b d : Operand} (ho : o.op = .pick a b d) (hok : AllOk ((opOf P o).ev ρA H c)) : Out P w0 (ExecY P ρ o w) H φ ((opOf P o).ev ρA H c) c := by
  simp only [opOf, ho] at hok ⊢
  exact (pick_out (P := P) (hρ a) (hρ b) (hρ d) hr hok).imp fun v w' h => .inl (by simp only [execOp, ho]; exact h)
theorem op_alloc (hr : HR P w0 H φ w) {t : TypeId} (ho : o.op = .alloc t) (hok : AllOk ((opOf P o).ev ρA H c)) : Out P w0 (ExecY P ρ o w) H φ ((opOf P o).ev ρA H c) c := by
  simp only [opOf, ho] at hok ⊢
  obtain ⟨z, hz⟩ := om_bad hok
  rw [hz, om_some] at hok ⊢
  exact (alloc_out hz hr hok).imp fun v w' h => value_of (by simp only [execOp, ho]) h
theorem op_load (hρ : ∀ x, VR φ (ρA x) (ρ x)) (hr : HR P w0 H φ w) {t : TypeId} {a : Operand} (ho : o.op = .load t a) (hok : AllOk ((opOf P o).ev ρA H c)) : Out P w0 (ExecY P ρ o w) H φ ((opOf P o).ev ρA H c) c := by
  simp only [opOf, ho] at hok ⊢
  obtain ⟨d, hd⟩ := om_bad hok
  rw [hd, om_some] at hok ⊢
  obtain ⟨sz, hs⟩ := om_bad hok
  rw [hs, om_some] at hok ⊢
  have fin : ∀ v w', (Instr.loadAt t (ρ a)).run P w = .ok v w' → ExecY P ρ o w v w' := fun v w' h => value_of (by simp only [execOp, ho]) h
  refine Out.bi2 hok (fun _ hok => ?_) fun _ hok => (loadY_out hd hs (hρ a) hr hok).imp fin
  cases hg : isAggT P t
  · rw [hg, bi_false] at hok; rw [bi_false]
    exact (load1_out hd hg (hρ a) hr hok).imp fin
  · rw [hg, bi_true] at hok; rw [bi_true]
    exact (loadA_out hd hs hg (hρ a) hr hok).imp fin
theorem op_store (hρ : ∀ x, VR φ (ρA x) (ρ x)) (hr : HR P w0 H φ w) {t : TypeId} {a x : Operand} (ho : o.op = .store t a x) (hok : AllOk ((opOf P o).ev ρA H c)) : Out P w0 (ExecY P ρ o w) H φ ((opOf P o).ev ρA H c) c := by
  simp only [opOf, ho] at hok ⊢
  obtain ⟨sz, hs⟩ := om_bad hok
  rw [hs, om_some] at hok ⊢
  have fin : ∀ v w', ((Instr.storeAt t (ρ a) (ρ x)).run P w = .ok () w' ∧ v = undef) → ExecY P ρ o w v w' := fun v w' h => skip_of (by simp only [execOp, ho]) h.1 h.2
  exact Out.bi2 hok (fun _ hok => (store_out hs (hρ a) (hρ x) hr hok).imp fin) fun _ hok => (storeY_out hs (hρ a) (hρ x) hr hok).imp fin
theorem op_nil (hρ : ∀ x, VR φ (ρA x) (ρ x)) (hr : HR P w0 H φ w) {x : Operand} (ho : o.op = .nilCheck x) (hok : AllOk ((opOf P o).ev ρA H c)) : Out P w0 (ExecY P ρ o w) H φ ((opOf P o).ev ρA H c) c := by
  simp only [opOf, ho] at hok ⊢
  exact Out.bi2 hok (fun _ hok => (nil_out ρ x o ho rfl (hρ x) hr hok).imp fun v w' h => .inl h) fun _ hok => (nilY_out ρ x o ho rfl (hρ x) hr hok).imp fun v w' h => .inl h
theorem op_bin (hρ : ∀ x, VR φ (ρA x) (ρ x)) (hr : HR P w0 H φ w) {op : BinOp} {t ty : TypeId} {x y : Operand} (ho : o.op = .binOp op t x y ty) (hok : AllOk ((opOf P o).ev ρA H c)) : Out P w0 (ExecY P ρ o w) H φ ((opOf P o).ev ρA H c) c := by
  simp only [opOf, ho] at hok ⊢
  exact (bin_out (x := x) (y := y) (hρ x) (hρ y) hr hok).imp fun v w' h => value_of (by simp only [execOp, ho]) h
theorem op_un (hρ : ∀ x, VR φ (ρA x) (ρ x)) (hr : HR P w0 H φ w) {op : UnOp} {t : TypeId} {x : Operand} (ho : o.op = .unOp op t x) (hok : AllOk ((opOf P o).ev ρA H c)) : Out P w0 (ExecY P ρ o w) H φ ((opOf P o).ev ρA H c) c := by
  simp only [opOf, ho] at hok ⊢
  exact (un_out (hρ x) hr hok).imp fun v w' h => value_of (by simp only [execOp, ho]) h
theorem op_conv (hρ : ∀ x, VR φ (ρA x) (ρ x)) (hr : HR P w0 H φ w) {s t : TypeId} {x : Operand} (ho : o.op = .convert s t x) (hok : AllOk ((opOf P o).ev ρA H c)) : Out P w0 (ExecY P ρ o w) H φ ((opOf P o).ev ρA H c) c := by
  simp only [opOf, ho] at hok ⊢
  exact (conv_out (hρ x) hr hok).imp fun v w' h => value_of (by simp only [execOp, ho]) h
theorem op_extract (hρ : ∀ x, VR φ (ρA x) (ρ x)) (hr : HR P w0 H φ w) {x : Operand} {i : Nat} (ho : o.op = .extract x i) (hok : AllOk ((opOf P o).ev ρA H c)) : Out P w0 (ExecY P ρ o w) H φ ((opOf P o).ev ρA H c) c := by
  simp only [opOf, ho] at hok ⊢
  exact (extract_out (P := P) (hρ x) hr hok).imp fun v w' h => value_of (by simp only [execOp, ho]) h
theorem op_entry (hρ : ∀ x, VR φ (ρA x) (ρ x)) (hr : HR P w0 H φ w) {x : Operand} (ho : o.op = .entry x) (hok : AllOk ((opOf P o).ev ρA H c)) : Out P w0 (ExecY P ρ o w) H φ ((opOf P o).ev ρA H c) c := by
  simp only [opOf, ho] at hok ⊢
  exact (entry_out (P := P) (hρ x) hr hok).imp fun v w' h => value_of (by simp only [execOp, ho]) h
theorem op_next (hρ : ∀ x, VR φ (ρA x) (ρ x)) (hr : HR P w0 H φ w) {x : Operand} {b : Bool} (ho : o.op = .next x b) (hok : AllOk ((opOf P o).ev ρA H c)) : Out P w0 (ExecY P ρ o w) H φ ((opOf P o).ev ρA H c) c := by
  simp only [opOf, ho] at hok ⊢
  cases b
  · rw [bi_false] at hok ⊢
    exact (next_out (P := P) (ty := o.type) (hρ x) hr hok).imp fun v w' h => value_of (by simp only [execOp, ho]) h
  · exact (badC_ev hok).elim
theorem op_field (hρ : ∀ x, VR φ (ρA x) (ρ x)) (hr : HR P w0 H φ w) {t : TypeId} {x : Operand} {f : Nat} (ho : o.op = .field t x f) (hok : AllOk ((opOf P o).ev ρA H c)) : Out P w0 (ExecY P ρ o w) H φ ((opOf P o).ev ρA H c) c := by
  simp only [opOf, ho] at hok ⊢
  split at hok
  · rename_i fs ht
    obtain ⟨fd, hf⟩ := om_bad hok
    simp only [hf, om_some] at hok ⊢
    obtain ⟨sz, hs⟩ := om_bad hok
    rw [hs, om_some] at hok ⊢
    obtain ⟨d, hd⟩ := om_bad hok
    rw [hd, om_some] at hok ⊢
    exact (field_out ht hf hd hs (hρ x) hr hok).imp fun v w' h => value_of (by simp only [execOp, ho]) h
  · exact (badC_ev hok).elim
theorem op_fieldAddr (hρ : ∀ x, VR φ (ρA x) (ρ x)) (hr : HR P w0 H φ w) {t : TypeId} {x : Operand} {f : Nat} (ho : o.op = .fieldAddr t x f) (hok : AllOk ((opOf P o).ev ρA H c)) : Out P w0 (ExecY P ρ o w) H φ ((opOf P o).ev ρA H c) c := by
  simp only [opOf, ho] at hok ⊢
  split at hok
  · rename_i fs ht
    obtain ⟨fd, hf⟩ := om_bad hok
    simp only [hf, om_some] at hok ⊢
    obtain ⟨sz, hs⟩ := om_bad hok
    rw [hs, om_some] at hok ⊢
    cases h0 : nbeq sz 0
    · rw [h0, bi_false] at hok; rw [bi_false]
      have fin : ∀ v w', (Instr.fieldAt t (ρ x) f).run P w = .ok v w' → ExecY P ρ o w v w' := fun v w' h => value_of (by simp only [execOp, ho]) h
      exact Out.bi2 hok (fun _ hok => (fieldAddr_out ht hf hs (beq_false.1 h0) (hρ x) hr hok).imp fin) fun _ hok => (fieldAddrY_out ht hf hs (beq_false.1 h0) (hρ x) hr hok).imp fin
    · rw [h0] at hok; exact (badC_ev hok).elim
  · exact (badC_ev hok).elim
theorem op_indexAddr (hρ : ∀ x, VR φ (ρA x) (ρ x)) (hr : HR P w0 H φ w) {t : TypeId} {x i : Operand} (ho : o.op = .indexAddr t x i) (hok : AllOk ((opOf P o).ev ρA H c)) : Out P w0 (ExecY P ρ o w) H φ ((opOf P o).ev ρA H c) c := by
  simp only [opOf, ho] at hok ⊢
  split at hok
  · rename_i e ht
    obtain ⟨sz, hs⟩ := om_bad hok
    rw [hs, om_some] at hok; simp only [hs, om_some]
    have fin : ∀ v w', (Instr.indexAt t (ρ x) (ρ i)).run P w = .ok v w' → ExecY P ρ o w v w' := fun v w' h => value_of (by simp only [execOp, ho]) h
    exact Out.bi2 hok (fun _ hok => (ixSl_out ht hs (hρ x) (hρ i) hr hok).imp fin) fun _ hok => (ixSlY_out ht hs (hρ x) (hρ i) hr hok).imp fin
  · rename_i n e ht
    obtain ⟨sz, hs⟩ := om_bad hok
    rw [hs, om_some] at hok; simp only [hs, om_some]
    exact (ixArr_out ht hs (hρ x) (hρ i) hr hok).imp fun v w' h => value_of (by simp only [execOp, ho]) h
  · exact (badC_ev hok).elim
theorem op_index (hρ : ∀ x, VR φ (ρA x) (ρ x)) (hr : HR P w0 H φ w) {t : TypeId} {x i : Operand} (ho : o.op = .index t x i) (hok : AllOk ((opOf P o).ev ρA H c)) : Out P w0 (ExecY P ρ o w) H φ ((opOf P o).ev ρA H c) c := by
  simp only [opOf, ho] at hok ⊢
  split at hok
  · rename_i ht
    exact (ixStr_out ht (hρ x) (hρ i) hr hok).imp fun v w' h => value_of (by simp only [execOp, ho]) h
  · rename_i n e ht
    obtain ⟨sz, hs⟩ := om_bad hok
    simp only [hs, om_some] at hok ⊢
    obtain ⟨d, hd⟩ := om_bad hok
    simp only [hd, om_some] at hok ⊢
    exact (ixAgg_out ht hd hs (hρ x) (hρ i) hr hok).imp fun v w' h => value_of (by simp only [execOp, ho]) h
  · exact (badC_ev hok).elim
theorem op_lookup (hρ : ∀ x, VR φ (ρA x) (ρ x)) (hr : HR P w0 H φ w) {t : TypeId} {m k : Operand} {ok : Bool} (ho : o.op = .lookup t m k ok) (hok : AllOk ((opOf P o).ev ρA H c)) : Out P w0 (ExecY P ρ o w) H φ ((opOf P o).ev ρA H c) c := by
  simp only [opOf, ho] at hok ⊢
  split at hok
  · rename_i kt e ht
    obtain ⟨n, hn⟩ := om_bad hok
    simp only [hn, om_some] at hok ⊢
    obtain ⟨z, hz⟩ := om_bad hok
    simp only [hz, om_some] at hok ⊢
    exact (look_out ht (keyTag_ok hn) hz (hρ m) (hρ k) hr hok).imp fun v w' h => value_of (by simp only [execOp, ho]) h
  · exact (badC_ev hok).elim
theorem op_mapUpdate (hρ : ∀ x, VR φ (ρA x) (ρ x)) (hr : HR P w0 H φ w) {t : TypeId} {m k x : Operand} (ho : o.op = .mapUpdate t m k x ∨ o.op = .insert t m k x) (hok : AllOk ((opOf P o).ev ρA H c)) : Out P w0 (ExecY P ρ o w) H φ ((opOf P o).ev ρA H c) c := by
  rcases ho with ho | ho
  all_goals
    simp only [opOf, ho] at hok ⊢
    split at hok
    · rename_i kt e ht
      obtain ⟨n, hn⟩ := om_bad hok
      simp only [hn, om_some] at hok ⊢
      exact (mapUpd_out ht (keyTag_ok hn) (hρ m) (hρ k) (hρ x) hr hok).imp fun v w' h => skip_of (by simp only [execOp, ho]) h.1 h.2
    · exact (badC_ev hok).elim
theorem op_mapEntry (hρ : ∀ x, VR φ (ρA x) (ρ x)) (hr : HR P w0 H φ w) {t : TypeId} {m k : Operand} (ho : o.op = .mapEntry t m k) (hok : AllOk ((opOf P o).ev ρA H c)) : Out P w0 (ExecY P ρ o w) H φ ((opOf P o).ev ρA H c) c := by
  simp only [opOf, ho] at hok ⊢
  split at hok
  · rename_i kt e ht
    obtain ⟨n, hn⟩ := om_bad hok
    simp only [hn, om_some] at hok ⊢
    obtain ⟨z, hz⟩ := om_bad hok
    simp only [hz, om_some] at hok ⊢
    exact (mapEnt_out ht (keyTag_ok hn) hz (hρ m) (hρ k) hr hok).imp fun v w' h => value_of (by simp only [execOp, ho]) h
  · exact (badC_ev hok).elim
theorem op_entryStore (hρ : ∀ x, VR φ (ρA x) (ρ x)) (hr : HR P w0 H φ w) {t : TypeId} {m s x : Operand} (ho : o.op = .entryStore t m s x) (hok : AllOk ((opOf P o).ev ρA H c)) : Out P w0 (ExecY P ρ o w) H φ ((opOf P o).ev ρA H c) c := by
  simp only [opOf, ho] at hok ⊢
  exact (entSt_out (t := t) (hρ m) (hρ s) (hρ x) hr hok).imp fun v w' h => skip_of (by simp only [execOp, ho]) h.1 h.2
theorem op_range (hρ : ∀ x, VR φ (ρA x) (ρ x)) (hr : HR P w0 H φ w) {t : TypeId} {x : Operand} (ho : o.op = .range t x) (hok : AllOk ((opOf P o).ev ρA H c)) : Out P w0 (ExecY P ρ o w) H φ ((opOf P o).ev ρA H c) c := by
  simp only [opOf, ho] at hok ⊢
  split at hok
  · rename_i kt e ht
    exact (range_out ht (hρ x) hr hok).imp fun v w' h => value_of (by simp only [execOp, ho]) h
  · exact (badC_ev hok).elim
theorem op_makeSlice (hρ : ∀ x, VR φ (ρA x) (ρ x)) (hr : HR P w0 H φ w) {t : TypeId} {l m : Operand} (ho : o.op = .makeSlice t l m) (hok : AllOk ((opOf P o).ev ρA H c)) : Out P w0 (ExecY P ρ o w) H φ ((opOf P o).ev ρA H c) c := by
  simp only [opOf, ho] at hok ⊢
  split at hok
  · rename_i e ht
    obtain ⟨sz, hs⟩ := om_bad hok
    simp only [hs, om_some] at hok ⊢
    obtain ⟨bt, hb⟩ := om_bad hok
    simp only [hb, om_some] at hok ⊢
    obtain ⟨z, hz⟩ := om_bad hok
    simp only [hz, om_some] at hok ⊢
    have hc := bi_bad hok
    rw [hc, bi_true] at hok; rw [hc, bi_true]
    have h6 : nble bt 1000000 = true := by
      cases h : nble bt 1000000
      · rw [h] at hc; cases hc
      · rfl
    rw [h6, bi_true] at hc
    have hl := beq_true.1 hc
    rw [lenL_eq] at hl
    exact (makeSlice_out ht hs hb hz (ble_true.1 h6) hl (hρ l) (hρ m) hr hok).imp fun v w' h => value_of (by simp only [execOp, ho]) h
  · exact (badC_ev hok).elim
theorem op_makeFunc (hρ : ∀ x, VR φ (ρA x) (ρ x)) (hr : HR P w0 H φ w) {fn : Fn} {first cap : Array Operand} (ho : o.op = .makeFunc fn first cap) (hok : AllOk ((opOf P o).ev ρA H c)) : Out P w0 (ExecY P ρ o w) H φ ((opOf P o).ev ρA H c) c := by
  simp only [opOf, ho] at hok ⊢
  split at hok
  · rename_i f
    have h := makeFunc_out (P := P) (w0 := w0) (c := c) (f := f) (first := first.toList.map ρ) (cap := cap.toList.map ρ) (vs := (first.toList ++ cap.toList).map ρA) (by rw [← List.map_append]; exact vrs_map hρ _) hr
    have hl : (first.toList.map ρ).length = lenL first.toList := by rw [lenL_eq]; simp
    rw [hl] at h
    refine h.imp fun v w' h => value_of (s := Instr.makeFunc (.func f) (first.map ρ) (cap.map ρ)) (by simp only [execOp, ho]) ?_
    have e1 : (first.toList.map ρ).toArray = first.map ρ := by apply Array.ext'; simp
    have e2 : (cap.toList.map ρ).toArray = cap.map ρ := by apply Array.ext'; simp
    rwa [e1, e2] at h
  · exact (badC_ev hok).elim
theorem op_makeMap (hr : HR P w0 H φ w) {t : TypeId} {r : Option Operand} (ho : o.op = .makeMap t r) (hok : AllOk ((opOf P o).ev ρA H c)) : Out P w0 (ExecY P ρ o w) H φ ((opOf P o).ev ρA H c) c := by
  simp only [opOf, ho] at hok ⊢
  split at hok
  · rename_i kt e ht
    obtain ⟨n, hn⟩ := om_bad hok
    simp only [hn, om_some] at hok ⊢
    have hk := keyTag_ok hn
    have hn' := hk.kt
    refine Out.new (o := .map #[] 0) (val := .map (some w.heap.size)) hr ?_ ?_ ?_ hok
    · exact ⟨(fun h => by cases h), (fun _ => ⟨[], rfl, .nil, hn'⟩), (fun h => by cases h), (fun h => by exact no42 h)⟩
    · intro φ' _ h; exact .map _ _ _ _ _ _ h
    · refine value_of (s := Instr.makeMap t none) (by simp only [execOp, ho]; rfl) ?_
      simp only [Instr.makeMap, Sem.run_bind, run_newObj, Result.andThen_ok, Sem.run_pure']
  · exact (badC_ev hok).elim
theorem parts_toList (parts : Array (Nat × Operand)) : (parts.map fun (i, x) => (i, ρ x)).toList = (parts.toList.map (·.1)).zip ((parts.toList.map (·.2)).map ρ) := by
  rw [← zip_parts]; simp
theorem op_build (hρ : ∀ x, VR φ (ρA x) (ρ x)) (hr : HR P w0 H φ w) {t : TypeId} {parts : Array (Nat × Operand)} (ho : o.op = .build t parts) (hok : AllOk ((opOf P o).ev ρA H c)) : Out P w0 (ExecY P ρ o w) H φ ((opOf P o).ev ρA H c) c := by
  simp only [opOf, ho] at hok ⊢
  obtain ⟨z, hz⟩ := om_bad hok
  simp only [hz, om_some] at hok ⊢
  split at hok
  · rename_i fs ht
    obtain ⟨pls, hp⟩ := om_bad hok
    simp only [hp, om_some] at hok ⊢
    obtain ⟨pl, hpl⟩ := om_bad hok
    simp only [hpl, om_some] at hok ⊢
    exact (build_out hz (parts_toList (ρ := ρ) parts) (by simp) (.inl ⟨fs, pls, ht, hp, hpl⟩) (vrs_map hρ _) hr hok).imp fun v w' h => value_of (by simp only [execOp, ho]) h
  · rename_i n e ht
    obtain ⟨sz, hs⟩ := om_bad hok
    simp only [hs, om_some] at hok ⊢
    obtain ⟨pl, hpl⟩ := om_bad hok
    simp only [hpl, om_some] at hok ⊢
    exact (build_out hz (parts_toList (ρ := ρ) parts) (by simp) (.inr ⟨n, e, sz, ht, hs, hpl⟩) (vrs_map hρ _) hr hok).imp fun v w' h => value_of (by simp only [execOp, ho]) h
  · exact (badC_ev hok).elim
theorem op_buildSlice (hρ : ∀ x, VR φ (ρA x) (ρ x)) (hr : HR P w0 H φ w) {t : TypeId} {len : Nat} {parts : Array (Nat × Operand)} (ho : o.op = .buildSlice t len parts) (hok : AllOk ((opOf P o).ev ρA H c)) : Out P w0 (ExecY P ρ o w) H φ ((opOf P o).ev ρA H c) c := by
  simp only [opOf, ho] at hok ⊢
  split at hok
  · rename_i e ht
    obtain ⟨sz, hs⟩ := om_bad hok
    simp only [hs, om_some] at hok ⊢
    obtain ⟨z, hz⟩ := om_bad hok
    simp only [hz, om_some] at hok ⊢
    obtain ⟨pl, hpl⟩ := om_bad hok
    simp only [hpl, om_some] at hok ⊢
    have hc := bi_bad hok
    rw [hc, bi_true] at hok; rw [hc, bi_true]
    have h1 : nble (Nat.mul len sz) 100000 = true := by
      cases h : nble (Nat.mul len sz) 100000
      · rw [h] at hc; cases hc
      · rfl
    rw [h1, bi_true] at hc
    have hl := beq_true.1 hc
    rw [lenL_eq] at hl
    exact (buildSlice_out ht hs hz (parts_toList (ρ := ρ) parts) (by simp) hpl (ble_true.1 h1) hl (vrs_map hρ _) hr hok).imp fun v w' h => value_of (by simp only [execOp, ho]) h
  · exact (badC_ev hok).elim
theorem lo_ok (hρ : ∀ x, VR φ (ρA x) (ρ x)) (h0 : (ρA zeroO).p = 0) (lo : Option Operand) : LoOK φ (lo.map ρ) (ρA (lo.getD zeroO)) := by
  cases lo with
  | none => exact .inl ⟨rfl, h0⟩
  | some x => exact .inr ⟨_, rfl, hρ x⟩
theorem hi_ok (hρ : ∀ x, VR φ (ρA x) (ρ x)) (hi : Option Operand) : HiOK φ (hi.map ρ) hi.isSome (ρA (hi.getD zeroO)) := by
  cases hi with
  | none => exact .inl ⟨rfl, rfl⟩
  | some x => exact .inr ⟨_, rfl, rfl, hρ x⟩
theorem op_slice (hρ : ∀ x, VR φ (ρA x) (ρ x)) (h0 : (ρA zeroO).p = 0) (hr : HR P w0 H φ w) {t : TypeId} {x : Operand} {lo hi mx : Option Operand} (ho : o.op = .slice t x lo hi mx) (hok : AllOk ((opOf P o).ev ρA H c)) : Out P w0 (ExecY P ρ o w) H φ ((opOf P o).ev ρA H c) c := by
  simp only [opOf, ho, sliceOp] at hok ⊢
  have fin : ∀ v w', (Instr.sliceAt t (ρ x) (lo.map ρ) (hi.map ρ) (mx.map ρ)).run P w = .ok v w' → ExecY P ρ o w v w' := fun v w' h => value_of (by simp only [execOp, ho]) h
  have hlo := lo_ok hρ h0 lo
  have hhi := hi_ok hρ hi
  cases ht : (tyB P t).run with
  | none => rw [ht] at hok; exact (badC_ev hok).elim
  | some d =>
    rw [ht] at hok
    cases mx with
    | none =>
      cases d <;> simp only at hok ⊢
      case slice e =>
        obtain ⟨sz, hs⟩ := om_bad hok
        simp only [hs, om_some] at hok ⊢
        cases hz : nbeq sz 0
        · rw [hz, bi_false] at hok; rw [bi_false]
          exact Out.bi2 hok (fun _ hok => (cut_out ht hs (beq_false.1 hz) (hρ x) hlo hhi hr hok).imp fin) fun _ hok => (cutY_out ht hs (hρ x) hlo hhi hr hok).imp fin
        · rw [hz] at hok; exact (badC_ev hok).elim
      case string => exact (cutStr_out ht (hρ x) hlo hhi hr hok).imp fin
      case array n e =>
        obtain ⟨sz, hs⟩ := om_bad hok
        simp only [hs, om_some] at hok ⊢
        exact (cutArr_out ht hs (hρ x) hlo hhi hr hok).imp fin
      all_goals exact (badC_ev hok).elim
    | some m =>
      cases d <;> simp only at hok ⊢
      case slice e =>
        obtain ⟨sz, hs⟩ := om_bad hok
        simp only [hs, om_some] at hok ⊢
        obtain ⟨h, hh⟩ := om_bad hok
        subst hh
        simp only [om_some] at hok ⊢
        exact Out.bi2 hok (fun _ hok => (cut3_out ht hs (hρ x) hlo (hρ h) (hρ m) hr hok).imp fin) fun _ hok => (cut3Y_out ht hs (hρ x) hlo (hρ h) (hρ m) hr hok).imp fin
      all_goals exact (badC_ev hok).elim
theorem builtin_of {cl : Call} {b : Builtin} (ho : o.op = .call cl) (hb : cl.callee = .builtin b) {s : Sem Value} {v : Value} {w' : World}
    (hs : ∀ consts, builtin b cl.argTypes o.type consts (cl.args.map ρ) = (do pure (.value (← s)))) (h : s.run P w = .ok v w') : ExecY P ρ o w v w' := by
  refine value_of (s := s) ?_ h
  rw [← hs (cl.args.map fun | .const _ => true | _ => false)]
  simp only [execOp, ho, resolve, hb]
  rfl
theorem two_args {cl : Call} {x y : Operand} (h : cl.args.toList = [x, y]) : cl.args.map ρ = #[ρ x, ρ y] := by
  apply Array.ext'; simp [h]
theorem one_arg {cl : Call} {x : Operand} (h : cl.args.toList = [x]) : cl.args.map ρ = #[ρ x] := by
  apply Array.ext'; simp [h]
theorem op_len (hρ : ∀ x, VR φ (ρA x) (ρ x)) (hr : HR P w0 H φ w) {cl : Call} {x : Operand} (ho : o.op = .call cl) (hb : cl.callee = .builtin .len) (ha : cl.args.toList = [x]) (hok : AllOk ((opOf P o).ev ρA H c)) : Out P w0 (ExecY P ρ o w) H φ ((opOf P o).ev ρA H c) c := by
  simp only [opOf, ho, hb, builtinOp, ha] at hok ⊢
  split at hok
  · rename_i t ht
    exact (len_out (ty := o.type) ht (hρ x) hr hok).imp fun v w' h => builtin_of ho hb (fun consts => by rw [one_arg ha]; rfl) h
  · exact (badC_ev hok).elim
theorem op_minmax (hρ : ∀ x, VR φ (ρA x) (ρ x)) (hr : HR P w0 H φ w) {cl : Call} {x y : Operand} (isMax : Bool) (ho : o.op = .call cl) (hb : cl.callee = .builtin (bi isMax .max .min)) (ha : cl.args.toList = [x, y]) (hok : AllOk ((opOf P o).ev ρA H c)) : Out P w0 (ExecY P ρ o w) H φ ((opOf P o).ev ρA H c) c := by
  cases isMax
  all_goals
    simp only [bi_true, bi_false] at hb
    simp only [opOf, ho, hb, builtinOp, ha] at hok ⊢
    split at hok
    · rename_i k hk
      exact (minmax_out (P := P) (tys := cl.argTypes) (ty := o.type) (hρ x) (hρ y) hr hok).imp fun v w' h => builtin_of ho hb (fun consts => by rw [two_args ha]; rfl) h
    · exact (badC_ev hok).elim
theorem three_args {cl : Call} {x y z : Operand} (h : cl.args.toList = [x, y, z]) : cl.args.map ρ = #[ρ x, ρ y, ρ z] := by
  apply Array.ext'; simp [h]
theorem op_min3 (hρ : ∀ x, VR φ (ρA x) (ρ x)) (hr : HR P w0 H φ w) {cl : Call} {x y z : Operand} (ho : o.op = .call cl) (hb : cl.callee = .builtin .min) (ha : cl.args.toList = [x, y, z]) (hok : AllOk ((opOf P o).ev ρA H c)) : Out P w0 (ExecY P ρ o w) H φ ((opOf P o).ev ρA H c) c := by
  simp only [opOf, ho, hb, builtinOp, ha] at hok ⊢
  split at hok
  · rename_i k hk
    exact (min3_out (P := P) (tys := cl.argTypes) (ty := o.type) (hρ x) (hρ y) (hρ z) hr hok).imp fun v w' h => builtin_of ho hb (fun consts => by rw [three_args ha]; rfl) h
  · exact (badC_ev hok).elim
theorem op_delete (hρ : ∀ x, VR φ (ρA x) (ρ x)) (hr : HR P w0 H φ w) {cl : Call} {x y : Operand} (ho : o.op = .call cl) (hb : cl.callee = .builtin .delete) (ha : cl.args.toList = [x, y]) (hok : AllOk ((opOf P o).ev ρA H c)) : Out P w0 (ExecY P ρ o w) H φ ((opOf P o).ev ρA H c) c := by
  simp only [opOf, ho, hb, builtinOp, ha] at hok ⊢
  split at hok
  · rename_i t ht
    split at hok
    · rename_i kt e hu
      obtain ⟨n, hn⟩ := om_bad hok
      simp only [hn, om_some] at hok ⊢
      exact (del_out (ty := o.type) ht hu (keyTag_ok hn) (hρ x) (hρ y) hr hok).imp fun v w' h => builtin_of ho hb (fun consts => by rw [two_args ha]; rfl) h
    · exact (badC_ev hok).elim
  · exact (badC_ev hok).elim
theorem op_append (hρ : ∀ x, VR φ (ρA x) (ρ x)) (hr : HR P w0 H φ w) {cl : Call} {x y : Operand} (ho : o.op = .call cl) (hb : cl.callee = .builtin .append) (ha : cl.args.toList = [x, y]) (hok : AllOk ((opOf P o).ev ρA H c)) : Out P w0 (ExecY P ρ o w) H φ ((opOf P o).ev ρA H c) c := by
  simp only [opOf, ho, hb, builtinOp, ha, appendOp] at hok ⊢
  cases h0 : cl.argTypes[0]? with
  | none => rw [h0] at hok; exact (badC_ev hok).elim
  | some t =>
    cases h1 : cl.argTypes[1]? with
    | none => rw [h0, h1] at hok; exact (badC_ev hok).elim
    | some ty =>
      rw [h0, h1] at hok
      simp only at hok ⊢
      cases ht : (tyB P t).run with
      | none => rw [ht] at hok; exact (badC_ev hok).elim
      | some d =>
        cases hty : (tyB P ty).run with
        | none => rw [ht, hty] at hok; cases d <;> exact (badC_ev hok).elim
        | some d' =>
          rw [ht, hty] at hok
          cases d <;> first | exact (badC_ev hok).elim | skip
          rename_i e
          have hni : ∀ k, d' ≠ .int k := by
            intro k hk; subst hk; exact badC_ev hok
          have hok' : AllOk ((om (szB P e).run (badC 20) fun sz => om (btB P e).run (badC 20) fun bt => om (zeB P e).run (badC 20) fun z =>
            bi (bi (nble bt 1000000) (bi (nble 1 bt) (nbeq (lenL (cellsOf z)) sz) false) false) (.c2 x y ⟨fun a b H c => bi (bi (nble 24 a.tag) true (nble 24 b.tag)) ((appendY P e sz bt).run a b H c) ((appendC sz (bi (isU8 P e) (nbeq sz 1) false)).run a b H c)⟩) (badC 20)).ev ρA H c) := by
            cases d' <;> first | exact hok | exact absurd rfl (hni _)
          have goal' : Out P w0 (ExecY P ρ o w) H φ ((om (szB P e).run (badC 20) fun sz => om (btB P e).run (badC 20) fun bt => om (zeB P e).run (badC 20) fun z =>
            bi (bi (nble bt 1000000) (bi (nble 1 bt) (nbeq (lenL (cellsOf z)) sz) false) false) (.c2 x y ⟨fun a b H c => bi (bi (nble 24 a.tag) true (nble 24 b.tag)) ((appendY P e sz bt).run a b H c) ((appendC sz (bi (isU8 P e) (nbeq sz 1) false)).run a b H c)⟩) (badC 20)).ev ρA H c) c := by
            obtain ⟨sz, hs⟩ := om_bad hok'
            simp only [hs, om_some] at hok' ⊢
            obtain ⟨bt, hbt⟩ := om_bad hok'
            simp only [hbt, om_some] at hok' ⊢
            obtain ⟨z, hz⟩ := om_bad hok'
            simp only [hz, om_some] at hok' ⊢
            have hc := bi_bad hok'
            rw [hc, bi_true] at hok'; rw [hc, bi_true]
            have k1 : nble bt 1000000 = true := by
              cases h : nble bt 1000000
              · rw [h] at hc; cases hc
              · rfl
            rw [k1, bi_true] at hc
            have k2 : nble 1 bt = true := by
              cases h : nble 1 bt
              · rw [h] at hc; cases hc
              · rfl
            rw [k2, bi_true] at hc
            have k3 := beq_true.1 hc
            rw [lenL_eq] at k3
            obtain ⟨i, zv, hi, hzv, hzr, hcz⟩ := ze_ok hz
            obtain ⟨g1, _⟩ := (hzr φ).cells hcz
            obtain ⟨i', hi', he'⟩ := Option.map_eq_some_iff.1 (show (P.info? e).map (·.bytes) = some bt from hbt)
            rw [hi] at hi'; cases hi'
            have hA : AppT P cl.argTypes e sz bt zv := ⟨⟨t, h0, ht⟩, ⟨ty, d', h1, hty, hni⟩, hs, ⟨i, hi, hzv, he'⟩, by rw [g1.length] at k3; simpa using k3, ble_true.1 k2, ble_true.1 k1⟩
            have hu : bi (isU8 P e) (nbeq sz 1) false = true → sz = 1 := by
              intro h
              cases h8 : isU8 P e
              · rw [h8] at h; cases h
              · rw [h8, bi_true] at h; exact beq_true.1 h
            have fin : ∀ v w', (Builtin.append_ cl.argTypes o.type #[ρ x, ρ y]).run P w = .ok v w' → ExecY P ρ o w v w' := fun v w' h => builtin_of ho hb (fun consts => by rw [two_args ha]; rfl) h
            exact Out.bi2 hok' (fun _ hok => (appendY_out (ty := o.type) hA (hρ x) (hρ y) hr hok).imp fin) fun _ hok => (append_out (ty := o.type) hA hu (hρ x) (hρ y) hr hok).imp fin
          cases d' <;> first | exact goal' | exact absurd rfl (hni _)
end ops
end Go.Eng
