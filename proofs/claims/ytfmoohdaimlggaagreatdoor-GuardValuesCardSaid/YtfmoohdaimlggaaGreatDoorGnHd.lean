
/- A part of the proof that the evaluator in GnC, and the driver in GnZ, answer as the model does; no conditions. -/
import Derived.Test.YtfmoohdaimlggaaGreatDoorGnHc
namespace Go.Eng
open Go.RowKit Go.Proofs
noncomputable section
def unW (a : AV) : Nat × Nat := ((nthL a.cs 0).p, (nthL a.cs 1).p)
def cutW (x : Nat × Nat) : Nat × Nat := (x.1, cutN x.1 x.2)
def sp_pat (o : Nat) : Bool := decide (24 ≤ o ∧ o ≤ 26)
def sp_has (l : List AV) (x : Nat) : Bool := decide (x ∈ l.map AV.p)
def sp_wW (op w v : Nat) (l : List AV) : Nat := (wdP op w v (l.map AV.p)).1
def sp_wX (op w v : Nat) (l : List AV) : Nat := (wdP op w v (l.map AV.p)).2
def sp_cmpA (o r v : Nat) (l : List AV) : Nat := sp_cmp o r v (l.map unW)
def sp_valA (o r v : Nat) (l : List AV) : Nat := sp_cmp o r v (l.map fun a => cutW (unW a))
def fIdx : List Nat → Nat → Nat → Nat
  | [], _, _ => 18446744073709551615
  | a :: l, x, i => if x = a then i else fIdx l x (i + 1)
def sp_idx (l : List AV) (x : Nat) : Nat := fIdx (l.map AV.p) x 0
def NtV : Nat → Option Native := ntL [(69, natP Tryz.prog 69 [22, 3, 23, 43] fun l => tupV [i64 (sp_wW (nthL l 0).p (nthL l 1).p (nthL l 2).p (nthL l 3).cs), i64 (sp_wX (nthL l 0).p (nthL l 1).p (nthL l 2).p (nthL l 3).cs)]), (70, natP Tryz.prog 70 [22] fun l => bV (sp_pat (nthL l 0).p)),
  (71, natP Tryz.prog 71 [43, 3] fun l => bV (sp_has (nthL l 0).cs (nthL l 1).p)), (72, natP Tryz.prog 72 [3, 23] fun l => aggV [i64 (nthL l 0).p, u64 (cutN (nthL l 0).p (nthL l 1).p)]), (73, natP Tryz.prog 73 [22, 3, 23, 79] fun l => u64 (sp_cmpA (nthL l 0).p (nthL l 1).p (nthL l 2).p (nthL l 3).cs)),
  (137, natP Tryz.prog 137 [43, 3] fun l => i64 (sp_idx (nthL l 0).cs (nthL l 1).p))]
def RV : Rec := evN Tryz.prog NtV (fun _ => false) 2
def NtW : Nat → Option Native := ntL [(76, natP Tryz.prog 76 [22, 3, 23, 43] fun l => tupV [i64 (sp_wW (nthL l 0).p (nthL l 1).p (nthL l 2).p (nthL l 3).cs), i64 (sp_wX (nthL l 0).p (nthL l 1).p (nthL l 2).p (nthL l 3).cs)]), (77, natP Tryz.prog 77 [22] fun l => bV (sp_pat (nthL l 0).p)),
  (78, natP Tryz.prog 78 [22, 3, 23, 79] fun l => u64 (sp_valA (nthL l 0).p (nthL l 1).p (nthL l 2).p (nthL l 3).cs)), n2 32 cutN, (149, natP Tryz.prog 149 [22, 3, 23, 3, 23] fun l => u64 (sp_one (nthL l 0).p (nthL l 1).p (nthL l 2).p (nthL l 3).p (nthL l 4).p)),
  (150, natP Tryz.prog 150 [3, 3, 23, 23] fun l => u64 (sp_cat (nthL l 0).p (nthL l 1).p (nthL l 2).p (nthL l 3).p)), (151, natP Tryz.prog 151 [22, 3, 23, 23] fun l => u64 (sp_bin (nthL l 0).p (nthL l 1).p (nthL l 2).p (nthL l 3).p)), (148, natP Tryz.prog 148 [22, 195] fun l => bV (isA (nthL l 0).p (nthL l 1).cs))]
def RW : Rec := evN Tryz.prog NtW (fun _ => false) 2
def lab137 : Lab := labT [([0,0,1,0,1], [(0,0),(1,0),(7,0),(8,0)])]
def lab30 : Lab := labT [([0,0,1,0,1,1], [(0,0),(1,0),(2,0),(3,0),(10,2),(21,0),(22,0),(23,0)]), ([0,0,1,0,1,1,1,1,1,1,1,1], [(0,0),(2,0),(13,0),(15,3),(59,0),(60,0),(61,0)])]
def lab33 : Lab := labT [([0,0,1,0,1,1], [(0,0),(1,0),(2,0),(3,0),(10,2),(11,0)]), ([0,0,1,0,1,1,1,1,1,1], [(0,0),(2,0),(3,0),(10,1043),(12,0),(14,0)])]
def lab78 : Lab := labT [([0,0,1,0,1,1], [(0,0),(1,0),(2,0),(3,0),(9,2),(10,0)])]
end
theorem RV_ok : RecOk Tryz.prog RV := evN_ok mixed (ntL_cons (ntL_cons (ntL_cons (ntL_cons (ntL_cons (ntL_cons ntL_nil)))))) noGor 2
theorem RW_ok : RecOk Tryz.prog RW := evN_ok mixed (ntL_cons (ntL_cons (ntL_cons (ntL_cons (ntL_cons (ntL_cons (ntL_cons (ntL_cons ntL_nil)))))))) noGor 2
end Go.Eng
namespace Go.Eng
open Go.RowKit Go.Proofs
set_option maxRecDepth 4000
theorem s137 (J : Jmp) (lp x : Nat) (ll : List AV) : (compY Tryz.prog 19 lab137 (finY Tryz.prog [.tmp 4] [3]) J [] (bodyC Tryz.f137) (finY Tryz.prog [.tmp 4] [3]) []).run RV (setArgs 0 [slP lp 1 ll, i64 x] noFr) (baseH Tryz.prog) =
  (J [0, 0, 1, 0, 1] [⟨24, lp, 0, 1, 0, ll⟩, (i64 x), (i64 (lenL ll)), (i64 0)]) := by kernel_rfl
theorem l137 (J : Jmp) (lp x n i : Nat) (ll : List AV) : lblY Tryz.prog 19 lab137 (baseH Tryz.prog) RV (finY Tryz.prog [.tmp 4] [3]) (bodyC Tryz.f137) J [0,0,1,0,1] [slP lp 1 ll, i64 x, i64 n, i64 i] =
  (bi (nbeq (bi (nb (nble (biased 3 n) (biased 3 i))) 1 0) 1)
 (bi (nble i.succ (lenL ll))
 (bi (bi (tagIs 3 (nthL (bi (nbeq (nthL [nthL ll i] 0).1 15) (nthL [nthL ll i] 0).6 [nthL [nthL ll i] 0]) 0)) true false)
 (bi (nbeq (bi (nbeq x (nthL (bi (nbeq (nthL [nthL ll i] 0).1 15) (nthL [nthL ll i] 0).6 [nthL [nthL ll i] 0]) 0).2) 1 0) 1)
 (ansY (i64 i))
 (J [0, 0, 1, 0, 1] [⟨24, lp, 0, 1, 0, ll⟩, (i64 x), (i64 n), (i64 (g_addi i 1))]))
 (failR 201))
 (failR 205))
 (ansY (i64 18446744073709551615))) := by kernel_rfl
theorem s71 (J : Jmp) (lp x : Nat) (ll : List AV) : (compY Tryz.prog 9 (fun _ => none) (finY Tryz.prog [.tmp 4] [4]) J [] (bodyC Tryz.f71) (finY Tryz.prog [.tmp 4] [4]) []).run RV (setArgs 0 [slP lp 1 ll, i64 x] noFr) (baseH Tryz.prog) =
  (bi (nbeq (okN (PureAt Tryz.prog 137 [⟨24, lp, 0, 1, 0, ll⟩, (i64 x)] (i64 (sp_idx ll x)))) 1)
 (ansY (mk1 8 (bi (nble 9223372036854775808 (biased 3 (sp_idx ll x))) 1 0)))
 (failR 301)) := by kernel_rfl
theorem s70 (J : Jmp) (o : Nat) : (compY Tryz.prog 9 (fun _ => none) (finY Tryz.prog [.tmp 2] [4]) J [] (bodyC Tryz.f70) (finY Tryz.prog [.tmp 2] [4]) []).run RV (setArgs 0 [i64 o] noFr) (baseH Tryz.prog) =
  (bi (nbeq (bi (nble 9223372036854775832 (biased 3 o)) 1 0) 1)
 (ansY (mk1 8 (bi (nble (biased 3 o) 9223372036854775834) 1 0)))
 (ansY (mk1 8 0))) := by kernel_rfl
theorem s77 (J : Jmp) (o : Nat) : (compY Tryz.prog 6 (fun _ => none) (finY Tryz.prog [.tmp 2] [4]) J [] (bodyC Tryz.f77) (finY Tryz.prog [.tmp 2] [4]) []).run RW (setArgs 0 [i64 o] noFr) (baseH Tryz.prog) =
  (bi (nbeq (okN (PureAt Tryz.prog 148 [(i64 o), (slP 1 1 [(i64 24), (i64 25), (i64 26)])] (mk1 8 (bi (isA o [(i64 24), (i64 25), (i64 26)]) 1 0)))) 1)
 (ansY (mk1 8 (bi (isA o [(i64 24), (i64 25), (i64 26)]) 1 0)))
 (failR 301)) := by kernel_rfl
theorem s30 (J : Jmp) (o x v ap : Nat) (al : List AV) : (compY Tryz.prog 79 lab30 (finY Tryz.prog [.tmp 8, .tmp 9] [23, 32]) J [] (bodyC Tryz.f30) (finY Tryz.prog [.tmp 8, .tmp 9] [23, 32]) []).run RV (setArgs 0 [i64 o, i64 x, u64 v, slP ap 2 al] noFr) (baseH Tryz.prog) =
  (bi (nble 0 (lenL al))
 (bi (nble (lenL al) 100000)
 (J [0, 0, 1, 0, 1, 1] [(i64 o), (i64 x), (u64 v), ⟨24, ap, 0, 2, 0, al⟩, (AV.mk 16 1 0 0 0 []), ⟨24, ap, 0, 2, 0, al⟩, (i64 (lenL al)), (i64 0)])
 (failR 12))
 (failR 12)) := by kernel_rfl
theorem l30a (J : Jmp) (o x v ap wp bp n i : Nat) (al wl bl : List AV) : lblY Tryz.prog 79 lab30 (baseH Tryz.prog) RV (finY Tryz.prog [.tmp 8, .tmp 9] [23, 32]) (bodyC Tryz.f30) J [0,0,1,0,1,1] [i64 o, i64 x, u64 v, slP ap 2 al, lsD wp wl, slP bp 2 bl, i64 n, i64 i] =
  (bi (nbeq (bi (nb (nble (biased 3 n) (biased 3 i))) 1 0) 1)
 (bi (nble i.succ (lenL bl))
 (bi (bi (tagIs 3 (nthL (bi (nbeq (nthL [nthL bl i] 0).1 15) (nthL [nthL bl i] 0).6 [nthL [nthL bl i] 0]) 0)) (bi (tagIs 7 (nthL (bi (nbeq (nthL [nthL bl i] 0).1 15) (nthL [nthL bl i] 0).6 [nthL [nthL bl i] 0]) (Nat.succ 0))) true false) false)
 (bi (nble ((lenL (takeN (lenL wl) wl)).add 1) 100000)
 (J [0, 0, 1, 0, 1, 1] [(i64 o), (i64 x), (u64 v), ⟨24, ap, 0, 2, 0, al⟩, ⟨16, 1, 0, 0, 0, takeN ((lenL (takeN (lenL wl) wl)).add 1) (appL (takeN (lenL wl) wl) [(i64 ((nthL (bi (nbeq (nthL [nthL bl i] 0).1 15) (nthL [nthL bl i] 0).6 [nthL [nthL bl i] 0]) 0).2))])⟩, ⟨24, bp, 0, 2, 0, bl⟩, (i64 n), (i64 (g_addi i 1))])
 (failR 211))
 (failR 201))
 (failR 205))
 (bi (nbeq (okN (PureAt Tryz.prog 69 [(i64 o), (i64 x), (u64 v), ⟨24, bi (nbeq wp 0) 0 1, 0, 1, 0, takeN (lenL wl) wl⟩] (tupV [(i64 (sp_wW o x v (takeN (lenL wl) wl))), (i64 (sp_wX o x v (takeN (lenL wl) wl)))]))) 1)
 (bi (nbeq (bi (nb (nbeq (sp_wX o x v (takeN (lenL wl) wl)) 0)) 1 0) 1)
 (ansY (tupV [(u64 0), (i64 (sp_wX o x v (takeN (lenL wl) wl)))]))
 (bi (nbeq (bi (nbeq o 1) 1 0) 0)
 (bi (nbeq (okN (PureAt Tryz.prog 70 [(i64 o)] (mk1 8 (bi (sp_pat o) 1 0)))) 1)
 (bi (nbeq (bi (sp_pat o) 1 0) 1)
 (ansY (tupV [(u64 0), (i64 4)]))
 (bi (nbeq (bi (nbeq (sp_wW o x v (takeN (lenL wl) wl)) 0) 1 0) 0)
 (bi (nbeq (okN (PureAt Tryz.prog 71 [⟨24, bi (nbeq wp 0) 0 1, 0, 1, 0, takeN (lenL wl) wl⟩, (i64 0)] (mk1 8 (bi (sp_has (takeN (lenL wl) wl) 0) 1 0)))) 1)
 (bi (nbeq (bi (sp_has (takeN (lenL wl) wl) 0) 1 0) 1)
 (ansY (tupV [(u64 0), (i64 3)]))
 (bi (nble 0 (lenL al))
 (bi (nble (lenL al) 100000)
 (J [0, 0, 1, 0, 1, 1, 1, 1, 1, 1, 1, 1] [(i64 o), (u64 v), (i64 (sp_wW o x v (takeN (lenL wl) wl))), (AV.mk 16 1 0 0 0 []), ⟨24, ap, 0, 2, 0, al⟩, (i64 (lenL al)), (i64 0)])
 (failR 12))
 (failR 12)))
 (failR 301))
 (ansY (tupV [(u64 0), (i64 3)]))))
 (failR 301))
 (ansY (tupV [(u64 0), (i64 4)]))))
 (failR 301))) := by kernel_rfl
theorem l30b (J : Jmp) (o v r wp bp n i : Nat) (wl bl : List AV) : lblY Tryz.prog 79 lab30 (baseH Tryz.prog) RV (finY Tryz.prog [.tmp 8, .tmp 9] [23, 32]) (bodyC Tryz.f30) J [0,0,1,0,1,1,1,1,1,1,1,1] [i64 o, u64 v, i64 r, lsD wp wl, slP bp 2 bl, i64 n, i64 i] =
  (bi (nbeq (bi (nb (nble (biased 3 n) (biased 3 i))) 1 0) 1)
 (bi (nble i.succ (lenL bl))
 (bi (bi (tagIs 3 (nthL (bi (nbeq (nthL [nthL bl i] 0).1 15) (nthL [nthL bl i] 0).6 [nthL [nthL bl i] 0]) 0)) (bi (tagIs 7 (nthL (bi (nbeq (nthL [nthL bl i] 0).1 15) (nthL [nthL bl i] 0).6 [nthL [nthL bl i] 0]) (Nat.succ 0))) true false) false)
 (bi (nbeq (okN (PureAt Tryz.prog 72 [(i64 ((nthL (bi (nbeq (nthL [nthL bl i] 0).1 15) (nthL [nthL bl i] 0).6 [nthL [nthL bl i] 0]) 0).2)), (u64 ((nthL (bi (nbeq (nthL [nthL bl i] 0).1 15) (nthL [nthL bl i] 0).6 [nthL [nthL bl i] 0]) (Nat.succ 0)).2))] (aggV [(i64 ((nthL (bi (nbeq (nthL [nthL bl i] 0).1 15) (nthL [nthL bl i] 0).6 [nthL [nthL bl i] 0]) 0).2)), (u64 (cutN (nthL (bi (nbeq (nthL [nthL bl i] 0).1 15) (nthL [nthL bl i] 0).6 [nthL [nthL bl i] 0]) 0).2 (nthL (bi (nbeq (nthL [nthL bl i] 0).1 15) (nthL [nthL bl i] 0).6 [nthL [nthL bl i] 0]) (Nat.succ 0)).2))]))) 1)
 (bi (nble ((lenL (takeN (lenL wl) wl)).add 1) 100000)
 (J [0, 0, 1, 0, 1, 1, 1, 1, 1, 1, 1, 1] [(i64 o), (u64 v), (i64 r), ⟨16, 1, 0, 0, 0, takeN ((lenL (takeN (lenL wl) wl)).add 1) (appL (takeN (lenL wl) wl) [(aggV [(i64 ((nthL (bi (nbeq (nthL [nthL bl i] 0).1 15) (nthL [nthL bl i] 0).6 [nthL [nthL bl i] 0]) 0).2)), (u64 (cutN (nthL (bi (nbeq (nthL [nthL bl i] 0).1 15) (nthL [nthL bl i] 0).6 [nthL [nthL bl i] 0]) 0).2 (nthL (bi (nbeq (nthL [nthL bl i] 0).1 15) (nthL [nthL bl i] 0).6 [nthL [nthL bl i] 0]) (Nat.succ 0)).2))])])⟩, ⟨24, bp, 0, 2, 0, bl⟩, (i64 n), (i64 (g_addi i 1))])
 (failR 211))
 (failR 301))
 (failR 201))
 (failR 205))
 (bi (nbeq (okN (PureAt Tryz.prog 73 [(i64 o), (i64 r), (u64 v), ⟨24, bi (nbeq wp 0) 0 1, 0, 2, 0, takeN (lenL wl) wl⟩] (u64 (sp_cmpA o r v (takeN (lenL wl) wl))))) 1)
 (ansY (tupV [(u64 (sp_cmpA o r v (takeN (lenL wl) wl))), (i64 0)]))
 (failR 301))) := by kernel_rfl
theorem body137 : Tryz.f137.body = some (bodyC Tryz.f137) := by kernel_rfl
theorem fn137 : Tryz.prog.funcs[137]? = some Tryz.f137 := by kernel_rfl
theorem nt137 : Tryz.f137.ntmps = 19 := by kernel_rfl
theorem rs137 : Tryz.f137.results.toList = [.tmp 4] := by kernel_rfl
theorem body71 : Tryz.f71.body = some (bodyC Tryz.f71) := by kernel_rfl
theorem fn71 : Tryz.prog.funcs[71]? = some Tryz.f71 := by kernel_rfl
theorem nt71 : Tryz.f71.ntmps = 9 := by kernel_rfl
theorem rs71 : Tryz.f71.results.toList = [.tmp 4] := by kernel_rfl
theorem body70 : Tryz.f70.body = some (bodyC Tryz.f70) := by kernel_rfl
theorem fn70 : Tryz.prog.funcs[70]? = some Tryz.f70 := by kernel_rfl
theorem nt70 : Tryz.f70.ntmps = 9 := by kernel_rfl
theorem rs70 : Tryz.f70.results.toList = [.tmp 2] := by kernel_rfl
theorem body77 : Tryz.f77.body = some (bodyC Tryz.f77) := by kernel_rfl
theorem fn77 : Tryz.prog.funcs[77]? = some Tryz.f77 := by kernel_rfl
theorem nt77 : Tryz.f77.ntmps = 6 := by kernel_rfl
theorem rs77 : Tryz.f77.results.toList = [.tmp 2] := by kernel_rfl
theorem body30 : Tryz.f30.body = some (bodyC Tryz.f30) := by kernel_rfl
theorem fn30 : Tryz.prog.funcs[30]? = some Tryz.f30 := by kernel_rfl
theorem nt30 : Tryz.f30.ntmps = 79 := by kernel_rfl
theorem rs30 : Tryz.f30.results.toList = [.tmp 8, .tmp 9] := by kernel_rfl
theorem walkR {n : Nat} {L : Nat → Nat → RL} {A : Nat → RL} (hend : ∀ k, L (k + 1) n = A n) (hstep : ∀ k i, i < n → L k (i + 1) = A (i + 1) → L (k + 1) i = A i) : ∀ k i, i + k = n → L (k + 1) i = A i := by
  intro k
  induction k with
  | zero => intro i hi; rw [show i = n by omega]; exact hend 0
  | succ k ih => intro i hi; exact hstep _ _ (by omega) (ih (i + 1) (by omega))
theorem walkA2 {α : Type} (X : List α) (f : α → AV) (L : Nat → Nat → List AV → RL) (A : RL) (hend : ∀ k, L (k + 1) X.length (X.map f) = A) (hstep : ∀ k i acc (h : i < X.length), acc.length = i → L (k + 1) i acc = L k (i + 1) (acc ++ [f X[i]])) : ∀ k i, i + k = X.length → L (k + 1) i ((X.take i).map f) = A := by
  intro k
  induction k with
  | zero => intro i hi; have e : i = X.length := by omega
            subst e; rw [List.take_length]; exact hend 0
  | succ k ih =>
    intro i hi
    have hlt : i < X.length := by omega
    rw [hstep _ _ _ hlt (by rw [List.length_map, List.length_take]; omega), take_snoc f X i hlt]
    exact ih (i + 1) (by omega)
theorem fIdx_has (x : Nat) : ∀ (l : List Nat) (i : Nat), i + l.length < 2 ^ 63 → nble 9223372036854775808 (biased 3 (fIdx l x i)) = decide (x ∈ l) ∧ fIdx l x i < 2 ^ 64 := by
  intro l
  induction l with
  | nil => intro i _; exact ⟨rfl, show (18446744073709551615 : Nat) < 2 ^ 64 by decide⟩
  | cons a l ih =>
    intro i hi
    rw [List.length_cons] at hi
    rw [fIdx]
    by_cases h : x = a
    · rw [if_pos h, biased3s (by omega), nble_t (by omega), decide_eq_true (by rw [h]; simp)]
      exact ⟨rfl, by omega⟩
    · rw [if_neg h]
      obtain ⟨h1, h2⟩ := ih (i + 1) (by omega)
      refine ⟨h1.trans ?_, h2⟩
      rw [decide_eq_decide]
      simp [h]
theorem map_p (ws : List Nat) : (ws.map i64).map AV.p = ws := by rw [List.map_map]; exact (List.map_congr_left fun a _ => rfl).trans (List.map_id ws)
theorem cells_i (n : Nat) : (bi (nbeq (i64 n).1 15) (i64 n).6 [i64 n]) = [i64 n] := rfl
theorem pure137 (lp x : Nat) (ws : List Nat) (hl : ws.length < 2 ^ 62) : PureAt Tryz.prog 137 [slP lp 1 (ws.map i64), i64 x] (i64 (sp_idx (ws.map i64) x)) := by
  have h := walkR (n := ws.length) (L := fun k i => jmpN Tryz.prog 19 lab137 (baseH Tryz.prog) RV (finY Tryz.prog [.tmp 4] [3]) (bodyC Tryz.f137) k [0,0,1,0,1] [slP lp 1 (ws.map i64), i64 x, i64 (lenL (ws.map i64)), i64 i]) (A := fun i => ansY (i64 (fIdx (ws.drop i) x i))) (fun k => ?_) (fun k i hi ih => ?_) ws.length 0 (by omega)
  · refine pure_fn mixed globs fn137 body137 nt137 rs137 RV_ok lab137 [3] (ws.length + 1) ((s137 _ lp x _).trans ?_)
    refine h.trans ?_
    unfold sp_idx
    rw [map_p]; rfl
  · show jmpN _ _ _ _ _ _ _ (k + 1) _ _ = _
    rw [jmpN_succ, l137, lenL_map, ctr (by omega) (by omega), if_neg (by omega), List.drop_length]; rfl
  · show jmpN _ _ _ _ _ _ _ (k + 1) _ _ = _
    rw [jmpN_succ, l137, lenL_map, ctr (by omega) (by omega), if_pos hi, nble_t (show i.succ ≤ ws.length from hi), bi_tt, nthL_map i64 ws i hi, nth1, cells_i, List.drop_eq_getElem_cons hi, fIdx]
    simp only [nth1, tg_i, bi_tt, i64_p, bl_bi, addi1 (show i < 2 ^ 63 by omega)]
    rw [nbeq_dec, bi_dec]
    split
    · rfl
    · exact (by rw [lenL_map] at ih; exact ih)
theorem pure71 (lp x : Nat) (ws : List Nat) (hl : ws.length < 2 ^ 62) : PureAt Tryz.prog 71 [slP lp 1 (ws.map i64), i64 x] (bV (sp_has (ws.map i64) x)) := by
  refine pure_fn mixed globs fn71 body71 nt71 rs71 RV_ok (fun _ => none) [4] 0 ((s71 _ lp x _).trans ?_)
  refine (okN_bi (pure137 lp x ws hl) _ _).trans ?_
  obtain ⟨h1, _⟩ := fIdx_has x ws 0 (by omega)
  unfold sp_idx sp_has
  rw [map_p, h1]; rfl
theorem pure70 (o : Nat) (ho : o < 2 ^ 64) : PureAt Tryz.prog 70 [i64 o] (bV (sp_pat o)) := by
  refine pure_fn mixed globs fn70 body70 nt70 rs70 RV_ok (fun _ => none) [4] 0 ((s70 _ o).trans ?_)
  rw [bl_bi, biased3, nble_dec, nble_dec, bi_dec]
  unfold sp_pat
  split
  · by_cases h : o ≤ 26
    · rw [decide_eq_true (show 24 ≤ o ∧ o ≤ 26 by omega), decide_eq_true (by omega)]; rfl
    · rw [decide_eq_false (show ¬ (24 ≤ o ∧ o ≤ 26) by omega), decide_eq_false (by omega)]; rfl
  · rw [decide_eq_false (show ¬ (24 ≤ o ∧ o ≤ 26) by omega)]; rfl
theorem pure70m (o : Nat) (ho : o < 2 ^ 64) : PureAt Tryz.prog 70 [i64 o] (mk1 8 (bi (sp_pat o) 1 0)) := pure70 o ho
theorem pure77 (o : Nat) : PureAt Tryz.prog 77 [i64 o] (bV (sp_pat o)) := by
  refine pure_fn mixed globs fn77 body77 nt77 rs77 RW_ok (fun _ => none) [4] 0 ((s77 _ o).trans ?_)
  refine (okN_bi (pure148 o 1 [24, 25, 26] (by decide)) _ _).trans ?_
  have e : isA o [i64 24, i64 25, i64 26] = sp_pat o := by
    unfold isA sp_pat
    simp only [List.any_cons, List.any_nil, nbeq_dec, i64, Bool.or_false]
    rw [Bool.eq_iff_iff]
    simp
    omega
  rw [e]; rfl
theorem cells_wd (x : Nat × Nat) : (bi (nbeq (wdA x).1 15) (wdA x).6 [wdA x]) = [i64 x.1, u64 x.2] := rfl
theorem p2_0 (a b : AV) : nthL [a, b] 0 = a := rfl
theorem p2_1 (a b : AV) : nthL [a, b] (Nat.succ 0) = b := rfl
theorem unW_wd (ws : List (Nat × Nat)) : (ws.map wdA).map unW = ws := by rw [List.map_map]; exact (List.map_congr_left fun a _ => rfl).trans (List.map_id ws)
theorem cmpA_eq (o r v : Nat) (ws : List (Nat × Nat)) : sp_cmpA o r v (ws.map wdA) = sp_cmp o r v ws := by unfold sp_cmpA; rw [unW_wd]
theorem fst_i (ws : List (Nat × Nat)) : (ws.map fun x => i64 x.1) = (ws.map Prod.fst).map i64 := by rw [List.map_map]; rfl
theorem wW_eq (o w v : Nat) (ws : List (Nat × Nat)) : sp_wW o w v (ws.map fun x => i64 x.1) = (wdP o w v (ws.map Prod.fst)).1 := by unfold sp_wW; rw [fst_i, map_p]
theorem wX_eq (o w v : Nat) (ws : List (Nat × Nat)) : sp_wX o w v (ws.map fun x => i64 x.1) = (wdP o w v (ws.map Prod.fst)).2 := by unfold sp_wX; rw [fst_i, map_p]
theorem has_eq (ws : List (Nat × Nat)) (x : Nat) : sp_has (ws.map fun x => i64 x.1) x = decide (x ∈ ws.map Prod.fst) := by unfold sp_has; rw [fst_i, map_p]
/-- what Apply returns -/
noncomputable def sp_ap (o w v : Nat) (ws : List (Nat × Nat)) : Nat × Nat := if (wdP o w v (ws.map Prod.fst)).2 ≠ 0 then (0, (wdP o w v (ws.map Prod.fst)).2) else if o = 1 ∨ sp_pat o = true then (0, 4)
  else if (wdP o w v (ws.map Prod.fst)).1 = 0 ∨ 0 ∈ ws.map Prod.fst then (0, 3) else (sp_cmp o (wdP o w v (ws.map Prod.fst)).1 v (ws.map cutW), 0)
theorem wdP_lt {op y z : Nat} {ws : List Nat} (hy : y < 2 ^ 64) : (wdP op y z ws).1 < 2 ^ 64 := by
  by_cases h1 : op = 0 ∨ 26 < op ∨ ws.length ≠ arT op
  · rw [wd_bad h1]; decide
  by_cases h2 : ∀ a ∈ ws, a ≤ 64
  · unfold wdP
    rw [if_neg h1, if_neg (by simp; exact h2)]
    have key : ∀ (c : Prop) [Decidable c] (a b : Nat × Nat), a.1 < 2 ^ 64 → b.1 < 2 ^ 64 → (if c then a else b).1 < 2 ^ 64 := by
      intro c _ a b ha hb; split <;> assumption
    match ws, h2 with
    | [], _ => exact key _ _ _ hy (by decide)
    | [a], h2 => exact key _ _ _ (key _ _ _ hy (by decide)) (show a < 2 ^ 64 by have := h2 a (by simp); omega)
    | [a, b], h2 =>
      have ha := h2 a (by simp)
      have hb := h2 b (by simp)
      refine key _ _ _ ?_ (key _ _ _ (key _ _ _ (by decide) (show a < 2 ^ 64 by omega)) (by decide))
      exact key _ _ _ (show a + b < 2 ^ 64 by omega) (by decide)
    | [a, b, c], h2 => exact key _ _ _ (show b < 2 ^ 64 by have := h2 b (by simp); omega) (by decide)
    | _ :: _ :: _ :: _ :: _, _ => exact (by decide : (0 : Nat) < 2 ^ 64)
  · obtain ⟨a, ha, hb⟩ : ∃ a ∈ ws, ¬ a ≤ 64 := by simpa using h2
    rw [wd_big h1 ha hb]; decide
theorem wd_ok {o w v : Nat} {ws : List (Nat × Nat)} (h0 : (wdP o w v (ws.map Prod.fst)).2 = 0) (h1 : ¬ (o = 1 ∨ sp_pat o = true)) : OpA o (wdP o w v (ws.map Prod.fst)).1 (ws.map cutW).length (ws.map cutW) := by
  have hb : ¬ (o = 0 ∨ 26 < o ∨ (ws.map Prod.fst).length ≠ arT o) := fun h => by rw [wd_bad h] at h0; cases h0
  have hp : ¬ (24 ≤ o ∧ o ≤ 26) := fun h => h1 (.inr (decide_eq_true h))
  have hlen : ws.length = arT o := by
    have : ¬ (ws.map Prod.fst).length ≠ arT o := fun h => hb (.inr (.inr h))
    rw [List.length_map] at this
    omega
  rw [List.length_map]
  unfold arT at hlen
  rw [if_neg (show ¬ (o = 0 ∨ 26 < o) by omega)] at hlen
  split at hlen
  · exact .inl ⟨hlen, by omega⟩
  split at hlen
  · next h =>
    refine .inr (.inl ⟨hlen, by omega, fun h34 x hx => ?_⟩)
    match ws, hlen, h0, hb with
    | [y], _, h0, hb =>
      have hy : y.1 ≤ 64 := by
        refine Nat.le_of_not_lt fun hy => ?_
        rw [wd_big hb (List.mem_singleton.2 rfl) (by omega)] at h0; cases h0
      have hx' : x = cutW y := by simpa using hx
      rw [hx', show ([y] : List (Nat × Nat)).map Prod.fst = [y.1] from rfl, wd_1 (by rcases h34 with rfl | rfl <;> rfl) (by omega) hy, if_neg (by omega)]
      rfl
  split at hlen
  · exact .inr (.inr (.inr ⟨hlen, by omega⟩))
  · exact .inr (.inr (.inl ⟨hlen, by omega⟩))
theorem cutW64 {ws : List (Nat × Nat)} (h : W64 ws) : W64 (ws.map cutW) := by
  intro x hx
  obtain ⟨y, hy, rfl⟩ := List.mem_map.1 hx
  exact ⟨(h y hy).1, cut64 _ (h y hy).1⟩
theorem pure30 (o w v ap : Nat) (ws : List (Nat × Nat)) (ho : o < 2 ^ 64) (hw : w < 2 ^ 64) (hv : v < 2 ^ 64) (hws : W64 ws) (hl : ws.length ≤ 1000) : PureAt Tryz.prog 30 [i64 o, i64 w, u64 v, slP ap 2 (ws.map wdA)] (tupV [u64 (sp_ap o w v ws).1, i64 (sp_ap o w v ws).2]) := by
  have h63 : ws.length < 2 ^ 63 := by omega
  have hfst : ∀ a ∈ ws.map Prod.fst, a < 2 ^ 64 := fun a h => by obtain ⟨y, hy, rfl⟩ := List.mem_map.1 h; exact (hws y hy).1
  have loopb : ∀ (r e : Nat), r < 2 ^ 64 → OpA o r (ws.map cutW).length (ws.map cutW) → jmpN Tryz.prog 79 lab30 (baseH Tryz.prog) RV (finY Tryz.prog [.tmp 8, .tmp 9] [23, 32]) (bodyC Tryz.f30) (ws.length + 1 + e) [0,0,1,0,1,1,1,1,1,1,1,1] [i64 o, u64 v, i64 r, lsD 1 [], slP ap 2 (ws.map wdA), i64 ws.length, i64 0] = ansY (tupV [u64 (sp_cmp o r v (ws.map cutW)), i64 0]) := by
    intro r e hr hop
    have h := walkA ws (fun x => wdA (cutW x)) (fun k i p acc => jmpN Tryz.prog 79 lab30 (baseH Tryz.prog) RV (finY Tryz.prog [.tmp 8, .tmp 9] [23, 32]) (bodyC Tryz.f30) (k + e) [0,0,1,0,1,1,1,1,1,1,1,1] [i64 o, u64 v, i64 r, lsD 1 acc, slP ap 2 (ws.map wdA), i64 ws.length, i64 i]) (fun p acc => bi (nbeq (okN (PureAt Tryz.prog 73 [(i64 o), (i64 r), (u64 v), slP 1 2 acc] (u64 (sp_cmpA o r v acc)))) 1) (ansY (tupV [(u64 (sp_cmpA o r v acc)), (i64 0)])) (failR 301)) hl (fun k p acc ha => ?_) (fun k i p acc hi ha => ?_) ws.length 0 1 (by omega)
    · refine h.trans ?_
      have e1 : (ws.map fun x => wdA (cutW x)) = (ws.map cutW).map wdA := by rw [List.map_map]; rfl
      rw [e1, cmpA_eq]
      exact okN_bi (pure73 o r v _ hr hv (cutW64 hws) hop) _ _
    · show jmpN _ _ _ _ _ _ _ (k + 1 + e) _ _ = _
      rw [Nat.add_right_comm, jmpN_succ, l30b]
      simp only [lenL_map, ctr h63 h63, Nat.lt_irrefl, if_false, takeN_self, n10, bi_ff]
      rfl
    · show jmpN _ _ _ _ _ _ _ (k + 1 + e) _ _ = _
      rw [Nat.add_right_comm, jmpN_succ, l30b]
      have hi63 : i < 2 ^ 63 := by omega
      simp only [takeN_self, takeN_snoc]
      simp only [lenL_map, ctr h63 hi63, hi, if_true, nble_t (show i.succ ≤ ws.length from hi), bi_tt, nthL_map wdA ws i hi, nth1, cells_wd, p2_0, p2_1, tg_i, tg_u, i64_p, u64_p, okN_bi (pure72 ws[i].1 ws[i].2 (hws _ (List.getElem_mem hi)).1), addi1 hi63]
      rw [lenL_eq, ha, ble_100k (by omega), bi_tt]
      rfl
  have loopa : jmpN Tryz.prog 79 lab30 (baseH Tryz.prog) RV (finY Tryz.prog [.tmp 8, .tmp 9] [23, 32]) (bodyC Tryz.f30) (ws.length + 1 + (ws.length + 1)) [0,0,1,0,1,1] [i64 o, i64 w, u64 v, slP ap 2 (ws.map wdA), lsD 1 [], slP ap 2 (ws.map wdA), i64 ws.length, i64 0] = ansY (tupV [u64 (sp_ap o w v ws).1, i64 (sp_ap o w v ws).2]) := by
    have h := walkA2 ws (fun x => i64 x.1) (fun k i acc => jmpN Tryz.prog 79 lab30 (baseH Tryz.prog) RV (finY Tryz.prog [.tmp 8, .tmp 9] [23, 32]) (bodyC Tryz.f30) (k + (ws.length + 1)) [0,0,1,0,1,1] [i64 o, i64 w, u64 v, slP ap 2 (ws.map wdA), lsD 1 acc, slP ap 2 (ws.map wdA), i64 ws.length, i64 i]) (ansY (tupV [u64 (sp_ap o w v ws).1, i64 (sp_ap o w v ws).2])) (fun k => ?_) (fun k i acc hi ha => ?_) ws.length 0 (by omega)
    · exact h
    · show jmpN _ _ _ _ _ _ _ (k + 1 + (ws.length + 1)) _ _ = _
      rw [Nat.add_right_comm, jmpN_succ, l30a]
      have q1 := okN_one.2 (pure69 (lp := 1) ho hw hv hfst)
      rw [← fst_i] at q1
      simp only [takeN_self]
      simp only [lenL_map, ctr h63 h63, Nat.lt_irrefl, if_false, n10, bi_ff]
      rw [wW_eq, wX_eq, has_eq]
      simp only [mk_slP]
      have hop := fun h0 h1 => wd_ok (o := o) (w := w) (v := v) (ws := ws) h0 h1
      have hpl := wdP_lt (op := o) (z := v) (ws := ws.map Prod.fst) hw
      unfold sp_ap
      generalize wdP o w v (ws.map Prod.fst) = P at *
      simp only [wv] at q1
      rw [q1, n11, bi_tt, bl_bi, nbeq_dec]
      by_cases h0 : P.2 = 0
      · rw [decide_eq_true h0, nb_t, bi_ff, b0, nbeq_dec, if_neg (show ¬ P.2 ≠ 0 by omega)]
        by_cases h1 : o = 1
        · rw [decide_eq_true h1, bi_tt, if_pos (.inl h1)]
        · rw [decide_eq_false h1, bi_ff, okN_bi (pure70m o ho), bl_bi]
          cases hpat : sp_pat o
          · rw [bi_ff, b0, nbeq_dec, if_neg (show ¬ (o = 1 ∨ false = true) by simp [h1])]
            by_cases h2 : P.1 = 0
            · rw [decide_eq_true h2, bi_tt, if_pos (.inl h2)]
            · have q2 := okN_one.2 (pure71 1 0 (ws.map Prod.fst) (by rw [List.length_map]; omega))
              rw [← fst_i, has_eq] at q2
              simp only [bV] at q2
              rw [decide_eq_false h2, bi_ff, q2, n11, bi_tt, bl_bi]
              by_cases h3 : 0 ∈ ws.map Prod.fst
              · rw [decide_eq_true h3, bi_tt, if_pos (.inr h3)]
              · rw [decide_eq_false h3, bi_ff, if_neg (by simp only [h2, h3, or_self, not_false_eq_true]), nble_t (Nat.zero_le _), bi_tt, nble_t (show ws.length ≤ 100000 by omega), bi_tt]
                have e := loopb P.1 k hpl (hop h0 (by rw [hpat]; simp [h1]))
                rw [show ws.length + 1 + k = k + (ws.length + 1) by omega] at e
                exact e
          · rw [bi_tt, if_pos (.inr rfl)]
      · rw [decide_eq_false h0, nb_f, bi_tt, if_pos h0]
    · show jmpN _ _ _ _ _ _ _ (k + 1 + (ws.length + 1)) _ _ = _
      rw [Nat.add_right_comm, jmpN_succ, l30a]
      have hi63 : i < 2 ^ 63 := by omega
      simp only [takeN_self, takeN_snoc]
      simp only [lenL_map, ctr h63 hi63, hi, if_true, nble_t (show i.succ ≤ ws.length from hi), bi_tt, nthL_map wdA ws i hi, nth1, cells_wd, p2_0, p2_1, tg_i, tg_u, i64_p, u64_p, addi1 hi63]
      rw [lenL_eq, ha, ble_100k (by omega), bi_tt]
      rfl
  refine pure_fn mixed globs fn30 body30 nt30 rs30 RV_ok lab30 [23, 32] (ws.length + 1 + (ws.length + 1)) ((s30 _ o w v ap _).trans ?_)
  rw [nble_t (Nat.zero_le _), bi_tt, lenL_map, nble_t (show ws.length ≤ 100000 by omega), bi_tt]
  exact loopa
end Go.Eng
namespace Go.Eng
open Go.RowKit Go.Proofs
set_option maxRecDepth 4000
theorem s33 (J : Jmp) (o x v ap : Nat) (al : List AV) : (compY Tryz.prog 64 lab33 (finY Tryz.prog [.tmp 8, .tmp 9] [23, 32]) J [] (bodyC Tryz.f33) (finY Tryz.prog [.tmp 8, .tmp 9] [23, 32]) []).run RW (setArgs 0 [i64 o, i64 x, u64 v, slP ap 2 al] noFr) (baseH Tryz.prog) =
  (J [0, 0, 1, 0, 1, 1] [(i64 o), (i64 x), (u64 v), ⟨24, ap, 0, 2, 0, al⟩, (tupV []), (i64 0)]) := by kernel_rfl
theorem l33a (J : Jmp) (o x v ap wp i : Nat) (al wl : List AV) : lblY Tryz.prog 64 lab33 (baseH Tryz.prog) RW (finY Tryz.prog [.tmp 8, .tmp 9] [23, 32]) (bodyC Tryz.f33) J [0,0,1,0,1,1] [i64 o, i64 x, u64 v, slP ap 2 al, lsD wp wl, i64 i] =
  (bi (nbeq (bi (nb (nble (biased 3 (lenL al)) (biased 3 i))) 1 0) 1)
 (bi (nble i.succ (lenL al))
 (bi (bi (tagIs 3 (nthL (bi (nbeq (nthL [nthL [nthL al i] 0] 0).1 15) (nthL [nthL [nthL al i] 0] 0).6 [nthL [nthL [nthL al i] 0] 0]) 0)) true false)
 (bi (nble ((lenL (takeN (lenL wl) wl)).add 1) 100000)
 (J [0, 0, 1, 0, 1, 1] [(i64 o), (i64 x), (u64 v), ⟨24, ap, 0, 2, 0, al⟩, ⟨16, 1, 0, 0, 0, takeN ((lenL (takeN (lenL wl) wl)).add 1) (appL (takeN (lenL wl) wl) [(i64 ((nthL (bi (nbeq (nthL [nthL [nthL al i] 0] 0).1 15) (nthL [nthL [nthL al i] 0] 0).6 [nthL [nthL [nthL al i] 0] 0]) 0).2))])⟩, (i64 (g_addi i 1))])
 (failR 211))
 (failR 201))
 (failR 205))
 (bi (nbeq (okN (PureAt Tryz.prog 76 [(i64 o), (i64 x), (u64 v), ⟨24, bi (nbeq wp 0) 0 1, 0, 1, 0, takeN (lenL wl) wl⟩] (tupV [(i64 (sp_wW o x v (takeN (lenL wl) wl))), (i64 (sp_wX o x v (takeN (lenL wl) wl)))]))) 1)
 (bi (nbeq (bi (nb (nbeq (sp_wX o x v (takeN (lenL wl) wl)) 0)) 1 0) 1)
 (ansY (tupV [(u64 0), (i64 (sp_wX o x v (takeN (lenL wl) wl)))]))
 (bi (nbeq (bi (nbeq o 1) 1 0) 0)
 (bi (nbeq (okN (PureAt Tryz.prog 77 [(i64 o)] (mk1 8 (bi (sp_pat o) 1 0)))) 1)
 (bi (nbeq (bi (sp_pat o) 1 0) 1)
 (ansY (tupV [(u64 0), (i64 4)]))
 (J [0, 0, 1, 0, 1, 1, 1, 1, 1, 1] [(i64 o), (u64 v), ⟨24, ap, 0, 2, 0, al⟩, ⟨24, bi (nbeq wp 0) 0 1, 0, 1, 0, takeN (lenL wl) wl⟩, (i64 (sp_wW o x v (takeN (lenL wl) wl))), (i64 0)]))
 (failR 301))
 (ansY (tupV [(u64 0), (i64 4)]))))
 (failR 301))) := by kernel_rfl
theorem l33b (J : Jmp) (o v ap wp r i : Nat) (al wl : List AV) : lblY Tryz.prog 64 lab33 (baseH Tryz.prog) RW (finY Tryz.prog [.tmp 8, .tmp 9] [23, 32]) (bodyC Tryz.f33) J [0,0,1,0,1,1,1,1,1,1] [i64 o, u64 v, slP ap 2 al, slP wp 1 wl, i64 r, i64 i] =
  (bi (nbeq (bi (nb (nble (biased 3 (lenL wl)) (biased 3 i))) 1 0) 1)
 (bi (nble i.succ (lenL wl))
 (bi (bi (tagIs 3 (nthL (bi (nbeq (nthL [nthL wl i] 0).1 15) (nthL [nthL wl i] 0).6 [nthL [nthL wl i] 0]) 0)) true false)
 (bi (nbeq (bi (nbeq (nthL (bi (nbeq (nthL [nthL wl i] 0).1 15) (nthL [nthL wl i] 0).6 [nthL [nthL wl i] 0]) 0).2 0) 1 0) 1)
 (ansY (tupV [(u64 0), (i64 3)]))
 (J [0, 0, 1, 0, 1, 1, 1, 1, 1, 1] [(i64 o), (u64 v), ⟨24, ap, 0, 2, 0, al⟩, ⟨24, wp, 0, 1, 0, wl⟩, (i64 r), (i64 (g_addi i 1))]))
 (failR 201))
 (failR 205))
 (bi (nbeq (bi (nbeq r 0) 1 0) 1)
 (ansY (tupV [(u64 0), (i64 3)]))
 (bi (nbeq (okN (PureAt Tryz.prog 78 [(i64 o), (i64 r), (u64 v), ⟨24, ap, 0, 2, 0, al⟩] (u64 (sp_valA o r v al)))) 1)
 (ansY (tupV [(u64 (sp_valA o r v al)), (i64 0)]))
 (failR 301)))) := by kernel_rfl
theorem s78 (J : Jmp) (o x v ap : Nat) (al : List AV) : (compY Tryz.prog 90 lab78 (finY Tryz.prog [.tmp 8] [23]) J [] (bodyC Tryz.f78) (finY Tryz.prog [.tmp 8] [23]) []).run RW (setArgs 0 [i64 o, i64 x, u64 v, slP ap 2 al] noFr) (baseH Tryz.prog) =
  (J [0, 0, 1, 0, 1, 1] [(i64 o), (i64 x), (u64 v), ⟨24, ap, 0, 2, 0, al⟩, (tupV []), (i64 0)]) := by kernel_rfl
theorem l78 (J : Jmp) (o x v ap wp i : Nat) (al wl : List AV) : lblY Tryz.prog 90 lab78 (baseH Tryz.prog) RW (finY Tryz.prog [.tmp 8] [23]) (bodyC Tryz.f78) J [0,0,1,0,1,1] [i64 o, i64 x, u64 v, slP ap 2 al, lsD wp wl, i64 i] =
  (bi (nbeq (bi (nb (nble (biased 3 (lenL al)) (biased 3 i))) 1 0) 1)
 (bi (nble i.succ (lenL al))
 (bi (bi (tagIs 3 (nthL (bi (nbeq (nthL [nthL [nthL al i] 0] 0).1 15) (nthL [nthL [nthL al i] 0] 0).6 [nthL [nthL [nthL al i] 0] 0]) 0)) true false)
 (bi (nble i.succ (lenL al))
 (bi (bi (tagIs 7 (nthL (bi (nbeq (nthL [nthL [nthL al i] 0] 0).1 15) (nthL [nthL [nthL al i] 0] 0).6 [nthL [nthL [nthL al i] 0] 0]) 1)) true false)
 (bi (nbeq (okN (PureAt Tryz.prog 32 [(i64 ((nthL (bi (nbeq (nthL [nthL [nthL al i] 0] 0).1 15) (nthL [nthL [nthL al i] 0] 0).6 [nthL [nthL [nthL al i] 0] 0]) 0).2)), (u64 ((nthL (bi (nbeq (nthL [nthL [nthL al i] 0] 0).1 15) (nthL [nthL [nthL al i] 0] 0).6 [nthL [nthL [nthL al i] 0] 0]) 1).2))] (u64 (cutN (nthL (bi (nbeq (nthL [nthL [nthL al i] 0] 0).1 15) (nthL [nthL [nthL al i] 0] 0).6 [nthL [nthL [nthL al i] 0] 0]) 0).2 (nthL (bi (nbeq (nthL [nthL [nthL al i] 0] 0).1 15) (nthL [nthL [nthL al i] 0] 0).6 [nthL [nthL [nthL al i] 0] 0]) 1).2)))) 1)
 (bi (eqA 1000 (AV.mk 25 wp 4 (lenL wl) 0 []) (AV.mk 25 wp 4 (lenL wl) 0 []))
 (bi (bi (tagIs 7 (nthL (bi (nbeq (nthL [nthL [nthL al i] 0] 0).1 15) (nthL [nthL [nthL al i] 0] 0).6 [nthL [nthL [nthL al i] 0] 0]) 1)) true false)
 (bi (eqA 1000 (u64 ((nthL (bi (nbeq (nthL [nthL [nthL al i] 0] 0).1 15) (nthL [nthL [nthL al i] 0] 0).6 [nthL [nthL [nthL al i] 0] 0]) 1).2)) (u64 ((nthL (bi (nbeq (nthL [nthL [nthL al i] 0] 0).1 15) (nthL [nthL [nthL al i] 0] 0).6 [nthL [nthL [nthL al i] 0] 0]) 1).2)))
 (bi (eqA 1000 (AV.mk 26 0 1 0 0 [nthL [nthL al i] 0]) (AV.mk 26 0 1 0 0 [nthL [nthL al i] 0]))
 (bi (nble i.succ (lenL al))
 (bi (eqA 1000 (AV.mk 26 0 0 0 0 [nthL al i]) (AV.mk 26 0 0 0 0 [nthL al i]))
 (bi (eqA 1000 (i64 i) (i64 i))
 (bi (eqA 1000 ⟨24, ap, 0, 2, 0, al⟩ ⟨24, ap, 0, 2, 0, al⟩)
 (bi (bi (tagIs 3 (nthL (bi (nbeq (nthL [nthL [nthL al i] 0] 0).1 15) (nthL [nthL [nthL al i] 0] 0).6 [nthL [nthL [nthL al i] 0] 0]) 0)) true false)
 (bi (eqA 1000 (i64 ((nthL (bi (nbeq (nthL [nthL [nthL al i] 0] 0).1 15) (nthL [nthL [nthL al i] 0] 0).6 [nthL [nthL [nthL al i] 0] 0]) 0).2)) (i64 ((nthL (bi (nbeq (nthL [nthL [nthL al i] 0] 0).1 15) (nthL [nthL [nthL al i] 0] 0).6 [nthL [nthL [nthL al i] 0] 0]) 0).2)))
 (bi (eqA 1000 (AV.mk 26 0 0 0 0 [nthL [nthL al i] 0]) (AV.mk 26 0 0 0 0 [nthL [nthL al i] 0]))
 (bi (nble i.succ (lenL al))
 (bi (eqA 1000 (AV.mk 26 0 0 0 0 [nthL al i]) (AV.mk 26 0 0 0 0 [nthL al i]))
 (bi (eqA 1000 (i64 i) (i64 i))
 (bi (eqA 1000 ⟨24, ap, 0, 2, 0, al⟩ ⟨24, ap, 0, 2, 0, al⟩)
 (bi (eqA 1000 (AV.mk 25 wp 4 (lenL wl) 0 []) (AV.mk 25 wp 4 (lenL wl) 0 []))
 (bi (nble ((lenL (takeN (lenL wl) wl)).add 1) 100000)
 (J [0, 0, 1, 0, 1, 1] [(i64 o), (i64 x), (u64 v), ⟨24, ap, 0, 2, 0, al⟩, ⟨16, 1, 0, 0, 0, takeN ((lenL (takeN (lenL wl) wl)).add 1) (appL (takeN (lenL wl) wl) [(u64 (cutN (nthL (bi (nbeq (nthL [nthL [nthL al i] 0] 0).1 15) (nthL [nthL [nthL al i] 0] 0).6 [nthL [nthL [nthL al i] 0] 0]) 0).2 (nthL (bi (nbeq (nthL [nthL [nthL al i] 0] 0).1 15) (nthL [nthL [nthL al i] 0] 0).6 [nthL [nthL [nthL al i] 0] 0]) 1).2))])⟩, (i64 (g_addi i 1))])
 (failR 211))
 (failR 90))
 (failR 90))
 (failR 90))
 (failR 90))
 (failR 205))
 (failR 90))
 (failR 90))
 (failR 201))
 (failR 90))
 (failR 90))
 (failR 90))
 (failR 205))
 (failR 90))
 (failR 90))
 (failR 201))
 (failR 90))
 (failR 301))
 (failR 201))
 (failR 205))
 (failR 201))
 (failR 205))
 (bi (nbeq (bi (nbeq (lenL wl) 0) 1 0) 1)
 (ansY (u64 v))
 (bi (nbeq (bi (nbeq (lenL wl) 1) 1 0) 1)
 (bi (nble (Nat.succ 0) (lenL al))
 (bi (bi (tagIs 3 (nthL (bi (nbeq (nthL [nthL [nthL al 0] 0] 0).1 15) (nthL [nthL [nthL al 0] 0] 0).6 [nthL [nthL [nthL al 0] 0] 0]) 0)) true false)
 (bi (nble (Nat.succ 0) (lenL wl))
 (bi (bi (tagIs 7 (nthL (bi (nbeq (nthL wl 0).1 15) (nthL wl 0).6 [nthL wl 0]) 0)) true false)
 (bi (nbeq (okN (PureAt Tryz.prog 149 [(i64 o), (i64 x), (u64 v), (i64 ((nthL (bi (nbeq (nthL [nthL [nthL al 0] 0] 0).1 15) (nthL [nthL [nthL al 0] 0] 0).6 [nthL [nthL [nthL al 0] 0] 0]) 0).2)), (u64 ((nthL (bi (nbeq (nthL wl 0).1 15) (nthL wl 0).6 [nthL wl 0]) 0).2))] (u64 (sp_one o x v (nthL (bi (nbeq (nthL [nthL [nthL al 0] 0] 0).1 15) (nthL [nthL [nthL al 0] 0] 0).6 [nthL [nthL [nthL al 0] 0] 0]) 0).2 (nthL (bi (nbeq (nthL wl 0).1 15) (nthL wl 0).6 [nthL wl 0]) 0).2)))) 1)
 (ansY (u64 (sp_one o x v (nthL (bi (nbeq (nthL [nthL [nthL al 0] 0] 0).1 15) (nthL [nthL [nthL al 0] 0] 0).6 [nthL [nthL [nthL al 0] 0] 0]) 0).2 (nthL (bi (nbeq (nthL wl 0).1 15) (nthL wl 0).6 [nthL wl 0]) 0).2)))
 (failR 301))
 (failR 201))
 (failR 205))
 (failR 201))
 (failR 205))
 (bi (nbeq (bi (nbeq (lenL wl) 3) 1 0) 1)
 (bi (nble (Nat.succ 0) (lenL wl))
 (bi (bi (tagIs 7 (nthL (bi (nbeq (nthL wl 0).1 15) (nthL wl 0).6 [nthL wl 0]) 0)) true false)
 (bi (nbeq (bi (nbeq (nthL (bi (nbeq (nthL wl 0).1 15) (nthL wl 0).6 [nthL wl 0]) 0).2 1) 1 0) 1)
 (bi (nble (Nat.succ 1) (lenL wl))
 (bi (bi (tagIs 7 (nthL (bi (nbeq (nthL wl 1).1 15) (nthL wl 1).6 [nthL wl 1]) 0)) true false)
 (ansY (u64 ((nthL (bi (nbeq (nthL wl 1).1 15) (nthL wl 1).6 [nthL wl 1]) 0).2)))
 (failR 201))
 (failR 205))
 (bi (nble (Nat.succ 2) (lenL wl))
 (bi (bi (tagIs 7 (nthL (bi (nbeq (nthL wl 2).1 15) (nthL wl 2).6 [nthL wl 2]) 0)) true false)
 (ansY (u64 ((nthL (bi (nbeq (nthL wl 2).1 15) (nthL wl 2).6 [nthL wl 2]) 0).2)))
 (failR 201))
 (failR 205)))
 (failR 201))
 (failR 205))
 (bi (nbeq (bi (nbeq o 20) 1 0) 1)
 (bi (nble (Nat.succ 0) (lenL al))
 (bi (bi (tagIs 3 (nthL (bi (nbeq (nthL [nthL [nthL al 0] 0] 0).1 15) (nthL [nthL [nthL al 0] 0] 0).6 [nthL [nthL [nthL al 0] 0] 0]) 0)) true false)
 (bi (nble (Nat.succ 1) (lenL al))
 (bi (bi (tagIs 3 (nthL (bi (nbeq (nthL [nthL [nthL al 1] 0] 0).1 15) (nthL [nthL [nthL al 1] 0] 0).6 [nthL [nthL [nthL al 1] 0] 0]) 0)) true false)
 (bi (nble (Nat.succ 0) (lenL wl))
 (bi (bi (tagIs 7 (nthL (bi (nbeq (nthL wl 0).1 15) (nthL wl 0).6 [nthL wl 0]) 0)) true false)
 (bi (nble (Nat.succ 1) (lenL wl))
 (bi (bi (tagIs 7 (nthL (bi (nbeq (nthL wl 1).1 15) (nthL wl 1).6 [nthL wl 1]) 0)) true false)
 (bi (nbeq (okN (PureAt Tryz.prog 150 [(i64 ((nthL (bi (nbeq (nthL [nthL [nthL al 0] 0] 0).1 15) (nthL [nthL [nthL al 0] 0] 0).6 [nthL [nthL [nthL al 0] 0] 0]) 0).2)), (i64 ((nthL (bi (nbeq (nthL [nthL [nthL al 1] 0] 0).1 15) (nthL [nthL [nthL al 1] 0] 0).6 [nthL [nthL [nthL al 1] 0] 0]) 0).2)), (u64 ((nthL (bi (nbeq (nthL wl 0).1 15) (nthL wl 0).6 [nthL wl 0]) 0).2)), (u64 ((nthL (bi (nbeq (nthL wl 1).1 15) (nthL wl 1).6 [nthL wl 1]) 0).2))] (u64 (sp_cat (nthL (bi (nbeq (nthL [nthL [nthL al 0] 0] 0).1 15) (nthL [nthL [nthL al 0] 0] 0).6 [nthL [nthL [nthL al 0] 0] 0]) 0).2 (nthL (bi (nbeq (nthL [nthL [nthL al 1] 0] 0).1 15) (nthL [nthL [nthL al 1] 0] 0).6 [nthL [nthL [nthL al 1] 0] 0]) 0).2 (nthL (bi (nbeq (nthL wl 0).1 15) (nthL wl 0).6 [nthL wl 0]) 0).2 (nthL (bi (nbeq (nthL wl 1).1 15) (nthL wl 1).6 [nthL wl 1]) 0).2)))) 1)
 (ansY (u64 (sp_cat (nthL (bi (nbeq (nthL [nthL [nthL al 0] 0] 0).1 15) (nthL [nthL [nthL al 0] 0] 0).6 [nthL [nthL [nthL al 0] 0] 0]) 0).2 (nthL (bi (nbeq (nthL [nthL [nthL al 1] 0] 0).1 15) (nthL [nthL [nthL al 1] 0] 0).6 [nthL [nthL [nthL al 1] 0] 0]) 0).2 (nthL (bi (nbeq (nthL wl 0).1 15) (nthL wl 0).6 [nthL wl 0]) 0).2 (nthL (bi (nbeq (nthL wl 1).1 15) (nthL wl 1).6 [nthL wl 1]) 0).2)))
 (failR 301))
 (failR 201))
 (failR 205))
 (failR 201))
 (failR 205))
 (failR 201))
 (failR 205))
 (failR 201))
 (failR 205))
 (bi (nble (Nat.succ 0) (lenL al))
 (bi (bi (tagIs 3 (nthL (bi (nbeq (nthL [nthL [nthL al 0] 0] 0).1 15) (nthL [nthL [nthL al 0] 0] 0).6 [nthL [nthL [nthL al 0] 0] 0]) 0)) true false)
 (bi (nble (Nat.succ 0) (lenL wl))
 (bi (bi (tagIs 7 (nthL (bi (nbeq (nthL wl 0).1 15) (nthL wl 0).6 [nthL wl 0]) 0)) true false)
 (bi (nble (Nat.succ 1) (lenL wl))
 (bi (bi (tagIs 7 (nthL (bi (nbeq (nthL wl 1).1 15) (nthL wl 1).6 [nthL wl 1]) 0)) true false)
 (bi (nbeq (okN (PureAt Tryz.prog 151 [(i64 o), (i64 ((nthL (bi (nbeq (nthL [nthL [nthL al 0] 0] 0).1 15) (nthL [nthL [nthL al 0] 0] 0).6 [nthL [nthL [nthL al 0] 0] 0]) 0).2)), (u64 ((nthL (bi (nbeq (nthL wl 0).1 15) (nthL wl 0).6 [nthL wl 0]) 0).2)), (u64 ((nthL (bi (nbeq (nthL wl 1).1 15) (nthL wl 1).6 [nthL wl 1]) 0).2))] (u64 (sp_bin o (nthL (bi (nbeq (nthL [nthL [nthL al 0] 0] 0).1 15) (nthL [nthL [nthL al 0] 0] 0).6 [nthL [nthL [nthL al 0] 0] 0]) 0).2 (nthL (bi (nbeq (nthL wl 0).1 15) (nthL wl 0).6 [nthL wl 0]) 0).2 (nthL (bi (nbeq (nthL wl 1).1 15) (nthL wl 1).6 [nthL wl 1]) 0).2)))) 1)
 (ansY (u64 (sp_bin o (nthL (bi (nbeq (nthL [nthL [nthL al 0] 0] 0).1 15) (nthL [nthL [nthL al 0] 0] 0).6 [nthL [nthL [nthL al 0] 0] 0]) 0).2 (nthL (bi (nbeq (nthL wl 0).1 15) (nthL wl 0).6 [nthL wl 0]) 0).2 (nthL (bi (nbeq (nthL wl 1).1 15) (nthL wl 1).6 [nthL wl 1]) 0).2)))
 (failR 301))
 (failR 201))
 (failR 205))
 (failR 201))
 (failR 205))
 (failR 201))
 (failR 205))))))) := by kernel_rfl
theorem body78 : Tryz.f78.body = some (bodyC Tryz.f78) := by kernel_rfl
theorem fn78 : Tryz.prog.funcs[78]? = some Tryz.f78 := by kernel_rfl
theorem nt78 : Tryz.f78.ntmps = 90 := by kernel_rfl
theorem rs78 : Tryz.f78.results.toList = [.tmp 8] := by kernel_rfl
theorem body33 : Tryz.f33.body = some (bodyC Tryz.f33) := by kernel_rfl
theorem fn33 : Tryz.prog.funcs[33]? = some Tryz.f33 := by kernel_rfl
theorem nt33 : Tryz.f33.ntmps = 64 := by kernel_rfl
theorem rs33 : Tryz.f33.results.toList = [.tmp 8, .tmp 9] := by kernel_rfl
theorem walkA3 {α : Type} (X : List α) (f : α → AV) (L : Nat → Nat → Nat → List AV → RL) (A : RL) (hend : ∀ k p, p = (if X.length = 0 then 0 else 1) → L (k + 1) X.length p (X.map f) = A) (hstep : ∀ k i p acc (h : i < X.length), acc.length = i → L (k + 1) i p acc = L k (i + 1) 1 (acc ++ [f X[i]])) : ∀ k i p, i + k = X.length → p = (if i = 0 then 0 else 1) → L (k + 1) i p ((X.take i).map f) = A := by
  intro k
  induction k with
  | zero => intro i p hi hp; have e : i = X.length := by omega
            subst e; rw [List.take_length]; exact hend 0 p hp
  | succ k ih =>
    intro i p hi hp
    have hlt : i < X.length := by omega
    rw [hstep _ _ _ _ hlt (by rw [List.length_map, List.length_take]; omega), take_snoc f X i hlt]
    exact ih (i + 1) 1 (by omega) (by rw [if_neg (by omega)])
theorem eqA_wd (n : Nat) (x : Nat × Nat) : eqA (n + 2) (wdA x) (wdA x) = true := eqA_agg _ _ _ _ _ _ _ fun c hc => by
  have h2 : c = i64 x.1 ∨ c = u64 x.2 := by simpa using hc
  rcases h2 with rfl | rfl
  · exact eqA_agg n _ _ _ _ _ _ fun c hc => by cases hc
  · exact eqA_agg n _ _ _ _ _ _ fun c hc => by cases hc
theorem e26 (q : Nat) (x : Nat × Nat) : eqA 1000 (AV.mk 26 0 q 0 0 [wdA x]) (AV.mk 26 0 q 0 0 [wdA x]) = true := eqA_agg 999 _ _ _ _ _ _ fun c hc => by rw [List.mem_singleton.1 hc]; exact eqA_wd 997 x
theorem e25 (p q n : Nat) : eqA 1000 (AV.mk 25 p q n 0 []) (AV.mk 25 p q n 0 []) = true := eqA_agg 999 _ _ _ _ _ _ fun c hc => by cases hc
theorem esl (p : Nat) (ws : List (Nat × Nat)) : eqA 1000 (slP p 2 (ws.map wdA)) (slP p 2 (ws.map wdA)) = true := eqA_agg 999 _ _ _ _ _ _ fun c hc => by obtain ⟨x, _, rfl⟩ := List.mem_map.1 hc; exact eqA_wd 997 x
theorem p_0 (a : AV) (l : List AV) : nthL (a :: l) 0 = a := rfl
theorem p_1 (a b : AV) (l : List AV) : nthL (a :: b :: l) 1 = b := rfl
theorem p_2 (a b c : AV) (l : List AV) : nthL (a :: b :: c :: l) 2 = c := rfl
theorem cells_u (n : Nat) : (bi (nbeq (u64 n).1 15) (u64 n).6 [u64 n]) = [u64 n] := rfl
theorem t_11 : nble (Nat.succ 0) 1 = true := rfl
theorem t_12 : nble (Nat.succ 0) 2 = true := rfl
theorem t_22 : nble (Nat.succ 1) 2 = true := rfl
theorem t_13 : nble (Nat.succ 0) 3 = true := rfl
theorem t_23 : nble (Nat.succ 1) 3 = true := rfl
theorem t_33 : nble (Nat.succ 2) 3 = true := rfl
theorem b_20 : nbeq 2 0 = false := rfl
theorem b_21 : nbeq 2 1 = false := rfl
theorem b_23 : nbeq 2 3 = false := rfl
theorem b_30 : nbeq 3 0 = false := rfl
theorem b_31 : nbeq 3 1 = false := rfl
theorem b_33 : nbeq 3 3 = true := rfl
theorem pure78 (o r v ap : Nat) (ws : List (Nat × Nat)) (ho : o < 2 ^ 64) (hr : r < 2 ^ 64) (hv : v < 2 ^ 64) (hws : W64 ws) (hl : ws.length ≤ 1000) (hop : OpA o r (ws.map cutW).length (ws.map cutW)) : PureAt Tryz.prog 78 [i64 o, i64 r, u64 v, slP ap 2 (ws.map wdA)] (u64 (sp_valA o r v (ws.map wdA))) := by
  have h63 : ws.length < 2 ^ 63 := by omega
  have ev : sp_valA o r v (ws.map wdA) = sp_cmp o r v (ws.map cutW) := by
    unfold sp_valA
    rw [List.map_map]; rfl
  rw [ev]
  have h := walkA3 ws (fun x => u64 (cutN x.1 x.2)) (fun k i p acc => jmpN Tryz.prog 90 lab78 (baseH Tryz.prog) RW (finY Tryz.prog [.tmp 8] [23]) (bodyC Tryz.f78) k [0,0,1,0,1,1] [i64 o, i64 r, u64 v, slP ap 2 (ws.map wdA), lsD p acc, i64 i]) (ansY (u64 (sp_cmp o r v (ws.map cutW)))) (fun k p hp => ?_) (fun k i p acc hi ha => ?_) ws.length 0 0 (by omega) rfl
  · refine pure_fn mixed globs fn78 body78 nt78 rs78 RW_ok lab78 [23] (ws.length + 1) ((s78 _ o r v ap _).trans ?_)
    exact h
  · show jmpN _ _ _ _ _ _ _ (k + 1) _ _ = _
    rw [jmpN_succ, l78]
    simp only [lenL_map, ctr h63 h63, Nat.lt_irrefl, if_false]
    rw [List.length_map] at hop
    match ws, hws, hop with
    | [], _, hop => rfl
    | [x], hws, hop =>
      obtain ⟨h1, h2⟩ := hws x (by simp)
      simp only [List.map_cons, List.map_nil, p_0, nth1, cells_wd, cells_u, tg_i, tg_u, i64_p, u64_p, bi_tt, bi_ff, List.length_singleton, n10, n11, bl_bi, t_11]
      rw [okN_bi (pure149 o r v x.1 _ hr hv h1 (cut64 _ h1))]
      rfl
    | [x, y], hws, hop =>
      obtain ⟨h1, h2⟩ := hws x (by simp)
      obtain ⟨h3, h4⟩ := hws y (by simp)
      simp only [List.map_cons, List.map_nil, p_0, p_1, nth1, cells_wd, cells_u, tg_i, tg_u, i64_p, u64_p, bi_tt, bi_ff, List.length_cons, List.length_nil, Nat.zero_add, Nat.reduceAdd, b_20, b_21, b_23, n01, n11, bl_bi, t_12, t_22]
      rw [okN_bi (pure150 x.1 y.1 _ _ h1 h3 (cut64 _ h1) (cut64 _ h3)), okN_bi (pure151 o x.1 _ _ h1 (cut64 _ h1) (cut64 _ h3)), nbeq_dec, bi_dec, ← ans_ite]
      rfl
    | [x, y, z], hws, hop =>
      simp only [List.map_cons, List.map_nil, p_0, p_1, p_2, nth1, cells_wd, cells_u, tg_i, tg_u, i64_p, u64_p, bi_tt, bi_ff, List.length_cons, List.length_nil, Nat.zero_add, Nat.reduceAdd, b_30, b_31, b_33, n01, n11, bl_bi, t_13, t_23, t_33]
      rw [nbeq_dec, bi_dec, ← ans_ite]
      rfl
    | _ :: _ :: _ :: _ :: _, _, hop => rcases hop with ⟨h, _⟩ | ⟨h, _⟩ | ⟨h, _⟩ | ⟨h, _⟩ <;> simp at h
  · show jmpN _ _ _ _ _ _ _ (k + 1) _ _ = _
    rw [jmpN_succ, l78]
    have hi63 : i < 2 ^ 63 := by omega
    simp only [takeN_self, takeN_snoc]
    simp only [lenL_map, ctr h63 hi63, hi, if_true, nble_t (show i.succ ≤ ws.length from hi), bi_tt, nthL_map wdA ws i hi, nth1, cells_wd, p2_0, p2_1, p_1, tg_i, tg_u, i64_p, u64_p, okN_bi (pure32 ws[i].1 ws[i].2 (hws _ (List.getElem_mem hi)).1 (hws _ (List.getElem_mem hi)).2), addi1 hi63, mk_slP, e26, e25, esl, eqa_i, eqa_u]
    rw [lenL_eq, ha, ble_100k (by omega), bi_tt]
    rfl
end Go.Eng
namespace Go.Eng
open Go.RowKit Go.Proofs
set_option maxRecDepth 4000
theorem pure77m (o : Nat) : PureAt Tryz.prog 77 [i64 o] (mk1 8 (bi (sp_pat o) 1 0)) := pure77 o
theorem drop_zero_mem (ws : List Nat) (i : Nat) (h : i < ws.length) (hn : ws[i] ≠ 0) : (0 ∈ ws.drop i) = (0 ∈ ws.drop (i + 1)) := by
  rw [List.drop_eq_getElem_cons h]
  simp only [List.mem_cons, eq_iff_iff]
  constructor
  · rintro (h1 | h1)
    · exact absurd h1.symm hn
    · exact h1
  · exact .inr
theorem pure33 (o w v ap : Nat) (ws : List (Nat × Nat)) (ho : o < 2 ^ 64) (hw : w < 2 ^ 64) (hv : v < 2 ^ 64) (hws : W64 ws) (hl : ws.length ≤ 1000) : PureAt Tryz.prog 33 [i64 o, i64 w, u64 v, slP ap 2 (ws.map wdA)] (tupV [u64 (sp_ap o w v ws).1, i64 (sp_ap o w v ws).2]) := by
  have h63 : ws.length < 2 ^ 63 := by omega
  have hfst : ∀ a ∈ ws.map Prod.fst, a < 2 ^ 64 := fun a h => by obtain ⟨y, hy, rfl⟩ := List.mem_map.1 h; exact (hws y hy).1
  have hfl : (ws.map Prod.fst).length = ws.length := List.length_map ..
  have loopb : ∀ (r e q : Nat), r < 2 ^ 64 → OpA o r (ws.map cutW).length (ws.map cutW) → jmpN Tryz.prog 64 lab33 (baseH Tryz.prog) RW (finY Tryz.prog [.tmp 8, .tmp 9] [23, 32]) (bodyC Tryz.f33) (ws.length + 1 + e) [0,0,1,0,1,1,1,1,1,1] [i64 o, u64 v, slP ap 2 (ws.map wdA), slP q 1 ((ws.map Prod.fst).map i64), i64 r, i64 0] = (if r = 0 ∨ 0 ∈ ws.map Prod.fst then ansY (tupV [u64 0, i64 3]) else ansY (tupV [u64 (sp_cmp o r v (ws.map cutW)), i64 0])) := by
    intro r e q hr hop
    have h := walkR (n := ws.length) (L := fun k i => jmpN Tryz.prog 64 lab33 (baseH Tryz.prog) RW (finY Tryz.prog [.tmp 8, .tmp 9] [23, 32]) (bodyC Tryz.f33) (k + e) [0,0,1,0,1,1,1,1,1,1] [i64 o, u64 v, slP ap 2 (ws.map wdA), slP q 1 ((ws.map Prod.fst).map i64), i64 r, i64 i]) (A := fun i => if r = 0 ∨ 0 ∈ (ws.map Prod.fst).drop i then ansY (tupV [u64 0, i64 3]) else ansY (tupV [u64 (sp_cmp o r v (ws.map cutW)), i64 0])) (fun k => ?_) (fun k i hi ih => ?_) ws.length 0 (by omega)
    · exact h
    · show jmpN _ _ _ _ _ _ _ (k + 1 + e) _ _ = _
      rw [Nat.add_right_comm, jmpN_succ, l33b, lenL_map, hfl, ctr h63 h63, if_neg (Nat.lt_irrefl _), List.drop_eq_nil_of_le (by omega), bl_bi, nbeq_dec, bi_dec]
      by_cases h0 : r = 0
      · rw [if_pos h0, if_pos (.inl h0)]
      · rw [if_neg h0, if_neg (by simp [h0])]
        have q1 := okN_one.2 (pure78 o r v ap ws ho hr hv hws hl hop)
        have ev : sp_valA o r v (ws.map wdA) = sp_cmp o r v (ws.map cutW) := by
          unfold sp_valA
          rw [List.map_map]; rfl
        simp only [mk_slP]
        rw [q1, n11, bi_tt, ev]
    · show jmpN _ _ _ _ _ _ _ (k + 1 + e) _ _ = _
      have hi63 : i < 2 ^ 63 := by omega
      have hi' : i < (ws.map Prod.fst).length := by omega
      rw [Nat.add_right_comm, jmpN_succ, l33b, lenL_map, hfl, ctr h63 hi63, if_pos hi, nble_t (show i.succ ≤ ws.length from hi), bi_tt, nthL_map i64 _ i hi', nth1, cells_i]
      simp only [nth1, tg_i, bi_tt, i64_p, bl_bi, addi1 hi63, mk_slP]
      rw [nbeq_dec, bi_dec]
      by_cases hz : (ws.map Prod.fst)[i] = 0
      · rw [if_pos hz, if_pos (.inr (by rw [List.drop_eq_getElem_cons hi', hz]; simp))]
      · rw [if_neg hz]
        simp only [drop_zero_mem _ i hi' hz]
        exact ih
  have loopa : jmpN Tryz.prog 64 lab33 (baseH Tryz.prog) RW (finY Tryz.prog [.tmp 8, .tmp 9] [23, 32]) (bodyC Tryz.f33) (ws.length + 1 + (ws.length + 1)) [0,0,1,0,1,1] [i64 o, i64 w, u64 v, slP ap 2 (ws.map wdA), lsD 0 [], i64 0] = ansY (tupV [u64 (sp_ap o w v ws).1, i64 (sp_ap o w v ws).2]) := by
    have h := walkA3 ws (fun x => i64 x.1) (fun k i p acc => jmpN Tryz.prog 64 lab33 (baseH Tryz.prog) RW (finY Tryz.prog [.tmp 8, .tmp 9] [23, 32]) (bodyC Tryz.f33) (k + (ws.length + 1)) [0,0,1,0,1,1] [i64 o, i64 w, u64 v, slP ap 2 (ws.map wdA), lsD p acc, i64 i]) (ansY (tupV [u64 (sp_ap o w v ws).1, i64 (sp_ap o w v ws).2])) (fun k p hp => ?_) (fun k i p acc hi ha => ?_) ws.length 0 0 (by omega) rfl
    · exact h
    · show jmpN _ _ _ _ _ _ _ (k + 1 + (ws.length + 1)) _ _ = _
      rw [Nat.add_right_comm, jmpN_succ, l33a]
      have q1 := okN_one.2 (pure76 (lp := bi (nbeq p 0) 0 1) ho hw hv hfst)
      rw [← fst_i] at q1
      simp only [takeN_self]
      simp only [lenL_map, ctr h63 h63, Nat.lt_irrefl, if_false]
      rw [wW_eq, wX_eq]
      simp only [mk_slP]
      have hop := fun h0 h1 => wd_ok (o := o) (w := w) (v := v) (ws := ws) h0 h1
      have hpl := wdP_lt (op := o) (z := v) (ws := ws.map Prod.fst) hw
      unfold sp_ap
      generalize wdP o w v (ws.map Prod.fst) = P at *
      simp only [wv] at q1
      rw [q1, n11, bi_tt, bl_bi, nbeq_dec]
      by_cases h0 : P.2 = 0
      · rw [decide_eq_true h0, nb_t, bi_ff, b0, nbeq_dec, if_neg (show ¬ P.2 ≠ 0 by omega)]
        by_cases h1 : o = 1
        · rw [decide_eq_true h1, bi_tt, if_pos (.inl h1)]
        · rw [decide_eq_false h1, bi_ff, okN_bi (pure77m o), bl_bi]
          cases hpat : sp_pat o
          · rw [bi_ff, if_neg (show ¬ (o = 1 ∨ false = true) by simp [h1])]
            have e := loopb P.1 k (bi (nbeq p 0) 0 1) hpl (hop h0 (by rw [hpat]; simp [h1]))
            rw [show ws.length + 1 + k = k + (ws.length + 1) by omega] at e
            rw [fst_i, e]
            split <;> rfl
          · rw [bi_tt, if_pos (.inr rfl)]
      · rw [decide_eq_false h0, nb_f, bi_tt, if_pos h0]
    · show jmpN _ _ _ _ _ _ _ (k + 1 + (ws.length + 1)) _ _ = _
      rw [Nat.add_right_comm, jmpN_succ, l33a]
      have hi63 : i < 2 ^ 63 := by omega
      simp only [takeN_self, takeN_snoc]
      simp only [lenL_map, ctr h63 hi63, hi, if_true, nble_t (show i.succ ≤ ws.length from hi), bi_tt, nthL_map wdA ws i hi, nth1, cells_wd, p2_0, p2_1, tg_i, tg_u, i64_p, u64_p, addi1 hi63]
      rw [lenL_eq, ha, ble_100k (by omega), bi_tt]
      rfl
  refine pure_fn mixed globs fn33 body33 nt33 rs33 RW_ok lab33 [23, 32] (ws.length + 1 + (ws.length + 1)) ((s33 _ o w v ap _).trans ?_)
  exact loopa
end Go.Eng
