/- A part of the proof that the evaluator in GnC, and the driver in GnZ, answer as the model does; no conditions. -/
import Derived.Test.YtfbgcggkgelaaaaGreatDoorGnS1
import Derived.Below
import Derived.Laws.CopyRow
import Derived.Laws.Cells
import Derived.Maps.AppendAt
import Derived.Scope
import Derived.Orders
import GoSem.ClaimChange
namespace Go.Eng
open Go.RowKit

/-- where the abstract blocks lie (f), and how many elements a block that append made has room for (k, by the block's own number) -/
structure Ph where
  f : Nat → Option Nat
  k : Nat → Nat
  op : Nat → Value → Prop
  /-- what nobody writes to any more, and how long a list is -/
  fz : Nat → Option (List Value)
  tl : Nat → Nat
instance : CoeFun Ph (fun _ => Nat → Option Nat) := ⟨Ph.f⟩
structure Le (φ φ' : Ph) : Prop where
  map : ∀ b x, φ b = some x → φ' b = some x ∧ φ'.k x = φ.k x
  op : φ'.op = φ.op
  fz : ∀ x C, φ.fz x = some C → φ'.fz x = some C
  tl : ∀ b x, φ b = some x → φ'.tl b = φ.tl b
instance {φ φ' : Ph} : CoeFun (Le φ φ') (fun _ => ∀ b x, φ b = some x → φ' b = some x ∧ φ'.k x = φ.k x) := ⟨Le.map⟩
theorem Le.refl (φ : Ph) : Le φ φ := ⟨fun _ _ h => ⟨h, rfl⟩, rfl, fun _ _ h => h, fun _ _ _ => rfl⟩
theorem Le.trans {φ φ' φ'' : Ph} (h : Le φ φ') (k : Le φ' φ'') : Le φ φ'' := ⟨fun b x e =>
  have h1 := h b x e
  have h2 := k b x h1.1
  ⟨h2.1, h2.2.trans h1.2⟩, k.op.trans h.op, fun x C hx => k.fz x C (h.fz x C hx), fun b x hb => (k.tl b x (h b x hb).1).trans (h.tl b x hb)⟩

/-! ### what an abstract value stands for -/
def kOf : Nat → IntKind
  | 0 => .i8 | 1 => .i16 | 2 => .i32 | 3 => .i64 | 4 => .u8 | 5 => .u16 | 6 => .u32 | _ => .u64
noncomputable def valI (c p : Nat) : Int := if isNeg c p then (p : Int) - kMod c else p

/-- what the numbers of the properties say: 0 nothing, 1 a bool, 2 to 9 a whole number, 10 a string; from 32 on what φ says -/
def OpS (φ : Ph) (p : Nat) (v : Value) : Prop := (p = 1 → ∃ b, v = .bool b) ∧ (2 ≤ p → p < 10 → ∃ n, v = .int (kOf (p - 2)) n) ∧ (p = 10 → ∃ s, v = .string s) ∧ (32 ≤ p → φ.op p v)
theorem OpS.mono {φ φ' : Ph} (h : φ'.op = φ.op) {p : Nat} {v : Value} (k : OpS φ p v) : OpS φ' p v := ⟨k.1, k.2.1, k.2.2.1, by rw [h]; exact k.2.2.2⟩
mutual
/-- what is known of a value that stands for itself, whatever is written: z says which blocks nobody writes to -/
inductive FZ (z : Nat → Option (List Value)) : AV → Value → Prop
  | int (c p r s : Nat) (cs : List AV) : c < 8 → p < kMod c → FZ z ⟨c, p, 0, r, s, cs⟩ (.int (kOf c) (valI c p))
  | bool (b : Bool) (r s : Nat) (cs : List AV) : FZ z ⟨8, bi b 1 0, 0, r, s, cs⟩ (.bool b)
  | str (l : List UInt8) (r s : Nat) (cs : List AV) : FZ z ⟨9, bytesN l, l.length, r, s, cs⟩ (.string ⟨l.toArray⟩)
  | nilp (q r s : Nat) (cs : List AV) : FZ z ⟨17, 0, q, r, s, cs⟩ (.pointer none)
  | nilm (q r s : Nat) (cs : List AV) : FZ z ⟨17, 2, q, r, s, cs⟩ (.map none)
  | nilf (q r s : Nat) (cs : List AV) : FZ z ⟨17, 3, q, r, s, cs⟩ .nilFunc
  | nils (q r s : Nat) : FZ z ⟨24, 0, q, r, s, []⟩ (.slice none 0 0)
  | empty (q r : Nat) (a : Addr) (cap : Nat) : FZ z ⟨24, 1, q, r, 0, []⟩ (.slice (some a) 0 cap)
  | done (q r s : Nat) (a : Addr) : FZ z ⟨24, 1, q, r, s, []⟩ (.slice (some a) 0 0)
  | sl (q r s : Nat) (cs : List AV) (x off cap : Nat) (C l : List Value) : z x = some C → FZs z (flatL cs) l → (∀ c ∈ cs, cellsOk c = true ∧ (cellsOf c).length = r) → cs.length ≤ cap → (s = 1 → cap = cs.length) → cs.length < 2 ^ 63 →
      (C.drop off).take l.length = l → 0 < cs.length → FZ z ⟨24, 1, q, r, s, cs⟩ (.slice (some ⟨x, off, none⟩) cs.length cap)
  | ptr (q r s x off : Nat) (e : AV) (C l : List Value) : z x = some C → FZs z (cellsOf e) l → cellsOk e = true → (C.drop off).take l.length = l → FZ z ⟨26, 0, q, r, s, [e]⟩ (.pointer (some ⟨x, off + q, none⟩))
inductive FZs (z : Nat → Option (List Value)) : List AV → List Value → Prop
  | nil : FZs z [] []
  | cons {a : AV} {v : Value} {as : List AV} {vs : List Value} : FZ z a v → FZs z as vs → FZs z (a :: as) (v :: vs)
end
theorem FZ.both {z z' : Nat → Option (List Value)} (hz : ∀ x C, z x = some C → z' x = some C) : (∀ {a v}, FZ z a v → FZ z' a v) ∧ (∀ {as vs}, FZs z as vs → FZs z' as vs) := by
  have key : ∀ {a v} (_ : FZ z a v), FZ z' a v := fun {a v} h => FZ.rec (motive_1 := fun a v _ => FZ z' a v) (motive_2 := fun as vs _ => FZs z' as vs)
    (fun c p r s cs h1 h2 => .int c p r s cs h1 h2) (fun b r s cs => .bool b r s cs) (fun l r s cs => .str l r s cs)
    (fun q r s cs => .nilp q r s cs) (fun q r s cs => .nilm q r s cs) (fun q r s cs => .nilf q r s cs) (fun q r s => .nils q r s) (fun q r a cap => .empty q r a cap) (fun q r s a => .done q r s a)
    (fun q r s cs x off cap C l h1 _ h3 h4 h5 h6 h7 h8 ih => .sl q r s cs x off cap C l (hz _ _ h1) ih h3 h4 h5 h6 h7 h8)
    (fun q r s x off e C l h1 _ h3 h4 ih => .ptr q r s x off e C l (hz _ _ h1) ih h3 h4) .nil (fun _ _ i1 i2 => .cons i1 i2) h
  refine ⟨key, ?_⟩
  intro as
  induction as with
  | nil => intro vs h; cases h; exact .nil
  | cons a as ih => intro vs h; cases h with | cons h1 h2 => exact .cons (key h1) (ih h2)
theorem FZ.mono {z z' : Nat → Option (List Value)} (hz : ∀ x C, z x = some C → z' x = some C) {a : AV} {v : Value} (h : FZ z a v) : FZ z' a v := (FZ.both hz).1 h
theorem FZs.mono {z z' : Nat → Option (List Value)} (hz : ∀ x C, z x = some C → z' x = some C) {as : List AV} {vs : List Value} (h : FZs z as vs) : FZs z' as vs := (FZ.both hz).2 h
mutual
inductive VR (φ : Ph) : AV → Value → Prop
  | int (c p r s : Nat) (cs : List AV) : c < 8 → p < kMod c → VR φ ⟨c, p, 0, r, s, cs⟩ (.int (kOf c) (valI c p))
  | bool (b : Bool) (r s : Nat) (cs : List AV) : VR φ ⟨8, bi b 1 0, 0, r, s, cs⟩ (.bool b)
  | str (l : List UInt8) (r s : Nat) (cs : List AV) : VR φ ⟨9, bytesN l, l.length, r, s, cs⟩ (.string ⟨l.toArray⟩)
  | ptr (b x off r s : Nat) (cs : List AV) : φ b = some x → VR φ ⟨10, b, off, r, s, cs⟩ (.pointer (some ⟨x, off, none⟩))
  | sl (b x off len cap s : Nat) (cs : List AV) : φ b = some x → len ≤ capS s → capS s ≤ cap → (isEx s = true → cap = capS s) → (isEx s = false → off = 0 → cap = φ.k x) → VR φ ⟨11, b, off, len, s, cs⟩ (.slice (some ⟨x, off, none⟩) len cap)
  | map (b x q r s : Nat) (cs : List AV) : φ b = some x → VR φ ⟨12, b, q, r, s, cs⟩ (.map (some x))
  | fn (f n r s : Nat) (cs : List AV) (first cap : List Value) : VRs φ cs (first ++ cap) → first.length = n → VR φ ⟨13, f, n, r, s, cs⟩ (.func (.func f) first.toArray cap.toArray)
  | yld (b x q r s : Nat) (cs : List AV) : φ b = some x → VR φ ⟨14, b, q, r, s, cs⟩ (.func (.yield x) #[] #[])
  | agg (p q r s : Nat) (cs : List AV) (l : List Value) : VRs φ cs l → (∀ c ∈ cs, okCell c = true) → VR φ ⟨15, p, q, r, s, cs⟩ (.agg l.toArray)
  | tup (p q r s : Nat) (cs : List AV) (l : List Value) : VRs φ cs l → VR φ ⟨16, p, q, r, s, cs⟩ (.tuple l.toArray)
  | nilp (q r s : Nat) (cs : List AV) : VR φ ⟨17, 0, q, r, s, cs⟩ (.pointer none)
  | nils (q r s : Nat) (cs : List AV) : VR φ ⟨17, 1, q, r, s, cs⟩ (.slice none 0 0)
  | nilm (q r s : Nat) (cs : List AV) : VR φ ⟨17, 2, q, r, s, cs⟩ (.map none)
  | nilf (q r s : Nat) (cs : List AV) : VR φ ⟨17, 3, q, r, s, cs⟩ .nilFunc
  | nili (q r s : Nat) (cs : List AV) : VR φ ⟨17, 4, q, r, s, cs⟩ .nilIface
  | unk (p q r s : Nat) (cs : List AV) (v : Value) : VR φ ⟨18, p, q, r, s, cs⟩ v
  | ud (p q r s : Nat) (cs : List AV) : VR φ ⟨19, p, q, r, s, cs⟩ undef
  | neg (p q r s : Nat) (cs : List AV) (n : Int) : n < 0 → VR φ ⟨21, p, q, r, s, cs⟩ (.int .i64 n)
  | pos (p q r s : Nat) (cs : List AV) (n : Int) : 0 ≤ n → VR φ ⟨22, p, q, r, s, cs⟩ (.int .i64 n)
  | opq (p q r s : Nat) (cs : List AV) (v : Value) : OpS φ p v → v.oneCell' = true → v.cells = #[v] → VR φ ⟨23, p, q, r, s, cs⟩ v
  | frz (p q r s : Nat) (cs : List AV) (v : Value) : FZ φ.fz ⟨24, p, q, r, s, cs⟩ v → VR φ ⟨24, p, q, r, s, cs⟩ v
  | fptr (p q r s : Nat) (cs : List AV) (v : Value) : FZ φ.fz ⟨26, p, q, r, s, cs⟩ v → VR φ ⟨26, p, q, r, s, cs⟩ v
  | own (b x r s : Nat) (cs : List AV) : φ b = some x → r ≤ φ.tl b → φ.tl b ≤ φ.k x → VR φ ⟨25, 1, b, r, s, cs⟩ (.slice (some ⟨x, 0, none⟩) r (φ.k x))
  | ownn (b s : Nat) (cs : List AV) : VR φ ⟨25, 0, b, 0, s, cs⟩ (.slice none 0 0)
  | owne (b s : Nat) (cs : List AV) (a : Addr) : VR φ ⟨25, 2, b, 0, s, cs⟩ (.slice (some a) 0 0)
  | optr (b x q r s : Nat) (cs : List AV) : φ b = some x → r < φ.tl b → VR φ ⟨27, b, q, r, s, cs⟩ (.pointer (some ⟨x, r * s + q, none⟩))
inductive VRs (φ : Ph) : List AV → List Value → Prop
  | nil : VRs φ [] []
  | cons {a : AV} {v : Value} {as : List AV} {vs : List Value} : VR φ a v → VRs φ as vs → VRs φ (a :: as) (v :: vs)
end

mutual
theorem VR.mono {φ φ' : Ph} (hφ : Le φ φ') {a : AV} {v : Value} (h : VR φ a v) : VR φ' a v := by
  cases h with
  | int c p r s cs h1 h2 => exact .int c p r s cs h1 h2
  | bool b r s cs => exact .bool b r s cs
  | str l r s cs => exact .str l r s cs
  | ptr b x off r s cs h => exact .ptr b x off r s cs (hφ _ _ h).1
  | sl b x off len cap s cs h h1 h2 h3 h4 => exact .sl b x off len cap s cs (hφ _ _ h).1 h1 h2 h3 (fun g1 g2 => (h4 g1 g2).trans (hφ _ _ h).2.symm)
  | map b x q r s cs h => exact .map b x q r s cs (hφ _ _ h).1
  | fn f n r s cs first cap h h1 => exact .fn f n r s cs first cap (VRs.mono hφ h) h1
  | yld b x q r s cs h => exact .yld b x q r s cs (hφ _ _ h).1
  | agg p q r s cs l h h1 => exact .agg p q r s cs l (VRs.mono hφ h) h1
  | tup p q r s cs l h => exact .tup p q r s cs l (VRs.mono hφ h)
  | nilp q r s cs => exact .nilp q r s cs
  | nils q r s cs => exact .nils q r s cs
  | nilm q r s cs => exact .nilm q r s cs
  | nilf q r s cs => exact .nilf q r s cs
  | nili q r s cs => exact .nili q r s cs
  | unk p q r s cs v => exact .unk p q r s cs v
  | ud p q r s cs => exact .ud p q r s cs
  | neg p q r s cs n h => exact .neg p q r s cs n h
  | pos p q r s cs n h => exact .pos p q r s cs n h
  | opq p q r s cs _ h1 h2 h3 => exact .opq p q r s cs _ (h1.mono hφ.op) h2 h3
  | frz p q r s cs v h => exact .frz p q r s cs v (h.mono hφ.fz)
  | fptr p q r s cs v h => exact .fptr p q r s cs v (h.mono hφ.fz)
  | own b x r s cs h h1 h2 =>
    have e := hφ.tl _ _ h
    have k := (hφ _ _ h).2
    rw [← k]
    exact .own b x r s cs (hφ _ _ h).1 (by omega) (by omega)
  | ownn b s cs => exact .ownn b s cs
  | owne b s cs a => exact .owne b s cs a
  | optr b x q r s cs h h1 => exact .optr b x q r s cs (hφ _ _ h).1 (by rw [hφ.tl _ _ h]; exact h1)
theorem VRs.mono {φ φ' : Ph} (hφ : Le φ φ') {as : List AV} {vs : List Value} (h : VRs φ as vs) : VRs φ' as vs := by
  cases h with
  | nil => exact .nil
  | cons h1 h2 => exact .cons (VR.mono hφ h1) (VRs.mono hφ h2)
end

section lists
variable {φ : Ph}
theorem VRs.length {as : List AV} {vs : List Value} (h : VRs φ as vs) : as.length = vs.length := by
  induction as generalizing vs with
  | nil => cases h; rfl
  | cons a as ih => cases h with | cons h1 h2 => simp [ih h2]
theorem VRs.get {as : List AV} {vs : List Value} (h : VRs φ as vs) {i : Nat} {a : AV} (ha : as[i]? = some a) : ∃ v, vs[i]? = some v ∧ VR φ a v := by
  induction as generalizing vs i with
  | nil => simp at ha
  | cons x as ih => cases h with
    | cons h1 h2 => cases i with
      | zero => simp at ha; subst ha; exact ⟨_, by simp, h1⟩
      | succ i => simpa using ih h2 (by simpa using ha)
theorem VRs.append {as bs : List AV} {vs ws : List Value} (h : VRs φ as vs) (h' : VRs φ bs ws) : VRs φ (as ++ bs) (vs ++ ws) := by
  induction as generalizing vs with
  | nil => cases h; exact h'
  | cons a as ih => cases h with | cons h1 h2 => exact .cons h1 (ih h2)
theorem VRs.take {as : List AV} {vs : List Value} (h : VRs φ as vs) (n : Nat) : VRs φ (as.take n) (vs.take n) := by
  induction as generalizing vs n with
  | nil => cases h; simp; exact .nil
  | cons a as ih => cases h with
    | cons h1 h2 => cases n with
      | zero => exact .nil
      | succ n => exact .cons h1 (ih h2 n)
theorem VRs.drop {as : List AV} {vs : List Value} (h : VRs φ as vs) (n : Nat) : VRs φ (as.drop n) (vs.drop n) := by
  induction as generalizing vs n with
  | nil => cases h; simp; exact .nil
  | cons a as ih => cases h with
    | cons h1 h2 => cases n with
      | zero => exact .cons h1 h2
      | succ n => exact ih h2 n
theorem VRs.repC {as : List AV} {vs : List Value} (h : VRs φ as vs) (n : Nat) : VRs φ (Eng.repC n as) ((List.replicate n vs).flatten) := by
  induction n with
  | zero => exact .nil
  | succ n ih =>
    show VRs φ (appL as (Eng.repC n as)) _
    rw [appL_eq, List.replicate_succ, List.flatten_cons]
    exact h.append ih
end lists

/-! ### what a tag says -/
section tags
variable {φ : Ph} {a : AV} {v : Value}
theorem VR.of_int (h : VR φ a v) {c : Nat} (hc : c < 8) (ht : a.tag = c) : v = .int (kOf c) (valI c a.p) ∧ a.p < kMod c ∧ a.q = 0 := by
  cases h <;> simp only at ht <;> first | (subst ht; exact ⟨rfl, by assumption, rfl⟩) | omega
theorem VR.of_bool (h : VR φ a v) (ht : a.tag = 8) : ∃ b, v = .bool b ∧ a.p = bi b 1 0 ∧ a.q = 0 := by
  cases h <;> simp only at ht <;> first | exact ⟨_, rfl, rfl, rfl⟩ | omega
theorem VR.of_str (h : VR φ a v) (ht : a.tag = 9) : ∃ l : List UInt8, v = .string ⟨l.toArray⟩ ∧ a.p = bytesN l ∧ a.q = l.length := by
  cases h <;> simp only at ht <;> first | exact ⟨_, rfl, rfl, rfl⟩ | omega
theorem VR.of_ptr (h : VR φ a v) (ht : a.tag = 10) : ∃ x, v = .pointer (some ⟨x, a.q, none⟩) ∧ φ a.p = some x := by
  cases h <;> simp only at ht <;> first | exact ⟨_, rfl, by assumption⟩ | omega
theorem VR.of_sl (h : VR φ a v) (ht : a.tag = 11) : ∃ x cap, v = .slice (some ⟨x, a.q, none⟩) a.r cap ∧ φ a.p = some x ∧ a.r ≤ capS a.s ∧ capS a.s ≤ cap ∧ (isEx a.s = true → cap = capS a.s) ∧ (isEx a.s = false → a.q = 0 → cap = φ.k x) := by
  cases h <;> simp only at ht <;> first | exact ⟨_, _, rfl, by assumption, by assumption, by assumption, by assumption, by assumption⟩ | omega
theorem VR.of_map (h : VR φ a v) (ht : a.tag = 12) : ∃ x, v = .map (some x) ∧ φ a.p = some x := by
  cases h <;> simp only at ht <;> first | exact ⟨_, rfl, by assumption⟩ | omega
theorem VR.of_fn (h : VR φ a v) (ht : a.tag = 13) : ∃ first cap, v = .func (.func a.p) (List.toArray first) (List.toArray cap) ∧ VRs φ a.cs (first ++ cap) ∧ first.length = a.q := by
  cases h <;> simp only at ht <;> first | exact ⟨_, _, rfl, by assumption, by assumption⟩ | omega
theorem VR.of_yld (h : VR φ a v) (ht : a.tag = 14) : ∃ x, v = .func (.yield x) #[] #[] ∧ φ a.p = some x := by
  cases h <;> simp only at ht <;> first | exact ⟨_, rfl, by assumption⟩ | omega
theorem VR.of_agg (h : VR φ a v) (ht : a.tag = 15) : ∃ l, v = .agg (List.toArray l) ∧ VRs φ a.cs l ∧ ∀ c ∈ a.cs, okCell c = true := by
  cases h <;> simp only at ht <;> first | exact ⟨_, rfl, by assumption, by assumption⟩ | omega
theorem VR.of_tup (h : VR φ a v) (ht : a.tag = 16) : ∃ l, v = .tuple (List.toArray l) ∧ VRs φ a.cs l := by
  cases h <;> simp only at ht <;> first | exact ⟨_, rfl, by assumption⟩ | omega
theorem VR.of_nil (h : VR φ a v) (ht : a.tag = 17) : (a.p = 0 ∧ v = .pointer none) ∨ (a.p = 1 ∧ v = .slice none 0 0) ∨ (a.p = 2 ∧ v = .map none) ∨ (a.p = 3 ∧ v = .nilFunc) ∨ (a.p = 4 ∧ v = .nilIface) := by
  cases h <;> simp only at ht <;> first | omega | simp
theorem VR.of_ud (h : VR φ a v) (ht : a.tag = 19) : v = undef := by
  cases h <;> simp only at ht <;> first | rfl | omega
theorem VR.of_opq (h : VR φ a v) (ht : a.tag = 23) : OpS φ a.p v ∧ v.oneCell' = true ∧ v.cells = #[v] := by
  cases h <;> simp only at ht <;> first | exact ⟨by assumption, by assumption, by assumption⟩ | omega
theorem VR.of_own (h : VR φ a v) (ht : a.tag = 25) (hp : a.p = 1) : ∃ x, φ a.q = some x ∧ a.r ≤ φ.tl a.q ∧ φ.tl a.q ≤ φ.k x ∧ v = .slice (some ⟨x, 0, none⟩) a.r (φ.k x) := by
  cases h <;> simp only at ht hp <;> first | exact ⟨_, by assumption, by assumption, by assumption, rfl⟩ | omega
theorem VR.of_optr (h : VR φ a v) (ht : a.tag = 27) : ∃ x, φ a.p = some x ∧ a.r < φ.tl a.p ∧ v = .pointer (some ⟨x, a.r * a.s + a.q, none⟩) := by
  cases h <;> simp only at ht <;> first | exact ⟨_, by assumption, by assumption, rfl⟩ | omega
/-- what may stand in a cell is no row -/
theorem VR.one (h : VR φ a v) (ho : okCell a = true) : v.oneCell' = true ∧ v.cells = #[v] ∧ a.tag ≠ 15 ∧ a.tag ≠ 18 := by
  unfold okCell at ho
  cases h <;> first | exact ⟨by assumption, by assumption, by simp only; omega, by simp only; omega⟩ | exact ⟨rfl, rfl, by simp only; omega, by simp only; omega⟩ | (rename_i h; cases h <;> exact ⟨rfl, rfl, by simp only; omega, by simp only; omega⟩) | (exact absurd ho (by simp [bi, nble_eq, nbeq_eq]))
theorem okCell_tag (ho : okCell a = true) : a.tag ≤ 14 ∨ a.tag = 17 ∨ 23 ≤ a.tag := by
  unfold okCell at ho
  cases h1 : nble a.tag 14
  · rw [h1, bi_false] at ho
    cases h2 : nbeq a.tag 17
    · rw [h2] at ho; exact .inr (.inr (ble_true.1 ho))
    · exact .inr (.inl (beq_true.1 h2))
  · exact .inl (ble_true.1 h1)
theorem VR.cells (h : VR φ a v) (ho : cellsOk a = true) : VRs φ (cellsOf a) v.cells.toList ∧ (∀ c ∈ cellsOf a, okCell c = true) := by
  unfold cellsOk at ho
  cases h1 : okCell a
  · rw [h1, bi_false] at ho
    obtain ⟨l, rfl, h2, h3⟩ := h.of_agg (beq_true.1 ho)
    unfold cellsOf
    rw [ho]
    exact ⟨by simpa [Value.cells] using h2, h3⟩
  · obtain ⟨h2, h3, h4, _⟩ := h.one h1
    unfold cellsOf
    rw [show nbeq a.tag 15 = false from by
      cases hb : nbeq a.tag 15
      · rfl
      · exact absurd (beq_true.1 hb) h4]
    rw [h3]
    exact ⟨.cons h .nil, by simpa using h1⟩
end tags

theorem beq_false {a b : Nat} : nbeq a b = false ↔ a ≠ b := by rw [← Bool.not_eq_true, beq_true]

theorem VR.isNil {φ : Ph} {n : Nat} {a : AV} {va : Value} (h : VR φ a va) (hn : isNil a n = true) : va = (match n with | 0 => .pointer none | 1 => .slice none 0 0 | 2 => .map none | 3 => .nilFunc | _ => .nilIface) := by
  unfold Eng.isNil at hn
  cases h17 : nbeq a.tag 17
  · rw [h17] at hn; cases hn
  · rw [h17, bi_true] at hn
    have hp := beq_true.1 hn
    rcases h.of_nil (beq_true.1 h17) with ⟨e, rfl⟩ | ⟨e, rfl⟩ | ⟨e, rfl⟩ | ⟨e, rfl⟩ | ⟨e, rfl⟩ <;> rw [e] at hp <;> subst hp <;> rfl
/-! ### the memory -/
inductive Ents (φ : Ph) (kt ck : Nat) : List AV → List MapEntry → Prop
  | nil : Ents φ kt ck [] []
  | cons {b q r s : Nat} {k v : AV} {ek ev : Value} {as : List AV} {es : List MapEntry} : VR φ k ek → keyA kt k = true → VR φ v ev → b < ck → Ents φ kt ck as es →
      Ents φ kt ck (⟨16, b, q, r, s, [k, v]⟩ :: as) (⟨ek, ev, b⟩ :: es)
def seenOf (l : List AV) : List Nat := l.map (·.p)
theorem no41 {p : Prop} (h : 4 ≤ 1) : p := absurd h (by decide)
theorem no42 {p : Prop} (h : 4 ≤ 2) : p := absurd h (by decide)
theorem no43 {p : Prop} (h : 4 ≤ 3) : p := absurd h (by decide)
theorem no40 {p : Prop} (h : 4 ≤ 0) : p := absurd h (by decide)
def stOf : Nat → LoopState
  | 0 => .ready | 1 => .busy | 2 => .done | _ => .exhausted
def pendOf : Nat → Option Code
  | 0 => none | 1 => some .ret | n + 2 => some (.exit n)
/-- a loop over a function: where its code stands, and its frame -/
structure LoopAt (P : Program) (φ : Ph) (B : AB) (rec : Loop) (f : Nat) (rp : List Nat) (fn : Func) (top : Code) (g : Operand) (T : Fr) : Prop where
  hfn : P.funcs[f]? = some fn
  htop : fn.body = some top
  code : codeAt top rp = some (.rangeFunc g rec.params rec.assign rec.body)
  cs : B.cs = [pathV f rp, encF T]
  mks : marksT T = []
  size : fn.ntmps ≤ rec.tmps.size
  val : ∀ t, VR φ ((getB t).run T) (rec.tmps.getD t undef)
  st : rec.state = stOf B.t
  pend : rec.pending = pendOf B.e
def LoopRel (P : Program) (φ : Ph) (B : AB) (o : Obj) : Prop := ∃ rec f rp fn top g T, o = .loop rec ∧ LoopAt P φ B rec f rp fn top g T
/-- a list of its own, or one that nobody writes to any more -/
def OwnRel (φ : Ph) (x : Nat) (B : AB) (o : Obj) : Prop := ∃ (l rest : List Value) (t : TypeId) (fr : Nat × Nat), o = .cells (l ++ rest).toArray t fr ∧ FZs φ.fz (flatL B.cs) l ∧ (∀ c ∈ B.cs, cellsOk c = true ∧ (cellsOf c).length = B.t) ∧ (B.kind = 6 → fr = (0, 0)) ∧ (l ++ rest).length = φ.k x * B.t ∧ B.cs.length < 2 ^ 40 ∧ 0 < B.t
def XRel (P : Program) (φ : Ph) (x : Nat) (B : AB) (o : Obj) : Prop := (B.kind = 4 ∧ o = .deferred (some [])) ∨ (B.kind = 5 ∧ LoopRel P φ B o) ∨ ((B.kind = 6 ∨ B.kind = 7) ∧ OwnRel φ x B o)
structure BRel (P : Program) (φ : Ph) (x : Nat) (B : AB) (o : Obj) : Prop where
  cells : B.kind = 1 → ∃ (l rest : List Value) (t : TypeId), o = .cells (l ++ rest).toArray t ∧ VRs φ B.cs l ∧ (∀ c ∈ B.cs, okCell c = true) ∧ (B.e = 0 → (l ++ rest).length = φ.k x * B.t)
  map : B.kind = 2 → ∃ es : List MapEntry, o = .map es.toArray B.e ∧ Ents φ B.t B.e B.cs es ∧ (B.t < 8 ∨ B.t = 9 ∨ 32 ≤ B.t)
  walk : B.kind = 3 → ∃ (m : AV) (seen : List AV) (mr : Option Nat), B.cs = [m, tupV seen] ∧ VR φ m (.map mr) ∧ o = .mapIter mr B.e (seenOf seen).toArray B.e
  ext : 4 ≤ B.kind → XRel P φ x B o

variable {P : Program}
theorem LoopAt.mono {φ φ' : Ph} (hφ : Le φ φ') {B : AB} {rec : Loop} {f : Nat} {rp : List Nat} {fn : Func} {top : Code} {g : Operand} {T : Fr} (h : LoopAt P φ B rec f rp fn top g T) : LoopAt P φ' B rec f rp fn top g T :=
  ⟨h.hfn, h.htop, h.code, h.cs, h.mks, h.size, fun t => (h.val t).mono hφ, h.st, h.pend⟩
theorem OwnRel.mono {φ φ' : Ph} (hφ : Le φ φ') {x : Nat} (hx : φ'.k x = φ.k x) {B : AB} {o : Obj} (h : OwnRel φ x B o) : OwnRel φ' x B o := by
  obtain ⟨l, rest, t, fr, h1, h2, h3, h4, h5, h6⟩ := h
  exact ⟨l, rest, t, fr, h1, h2.mono hφ.fz, h3, h4, by rw [hx]; exact h5, h6⟩
theorem XRel.mono {φ φ' : Ph} (hφ : Le φ φ') {x : Nat} (hx : φ'.k x = φ.k x) {B : AB} {o : Obj} (h : XRel P φ x B o) : XRel P φ' x B o := by
  rcases h with h | ⟨h, rec, f, rp, fn, top, g, T, e, h1⟩ | ⟨h, h1⟩
  · exact .inl h
  · exact .inr (.inl ⟨h, rec, f, rp, fn, top, g, T, e, h1.mono hφ⟩)
  · exact .inr (.inr ⟨h, h1.mono hφ hx⟩)
theorem Ents.mono {φ φ' : Ph} (hφ : Le φ φ') {kt ck : Nat} {as : List AV} {es : List MapEntry} (h : Ents φ kt ck as es) : Ents φ' kt ck as es := by
  induction h with
  | nil => exact .nil
  | cons h1 h2 h3 h4 _ ih => exact .cons (h1.mono hφ) h2 (h3.mono hφ) h4 ih
theorem BRel.mono {φ φ' : Ph} (hφ : Le φ φ') {x : Nat} (hx : φ'.k x = φ.k x) {B : AB} {o : Obj} (h : BRel P φ x B o) : BRel P φ' x B o where
  cells hk := by
    obtain ⟨l, rest, t, h1, h2, h3, h4⟩ := h.cells hk
    exact ⟨l, rest, t, h1, h2.mono hφ, h3, fun he => by rw [hx]; exact h4 he⟩
  map hk := by
    obtain ⟨es, h1, h2, h3⟩ := h.map hk
    exact ⟨es, h1, h2.mono hφ, h3⟩
  walk hk := by
    obtain ⟨m, seen, mr, h1, h2, h3⟩ := h.walk hk
    exact ⟨m, seen, mr, h1, h2.mono hφ, h3⟩
  ext hk := (h.ext hk).mono hφ hx

/-- the package's variables lie where they lie -/
def GL (P : Program) (φ : Ph) : Prop := ∀ g, g < P.globals.size → φ g = some g
theorem GL.mono {φ φ' : Ph} (h : GL P φ) (hle : Le φ φ') : GL P φ' := fun g hg => (hle _ _ (h g hg)).1
/-- the value can be read in the world as that of the type -/
def Opq (P : Program) (w0 : World) (t : TypeId) (v : Value) : Prop :=
  ∃ (H : Type) (enc : TypeId × Value → H) (spare : Nat → Bool) (held : Bool) (fuel : Nat) (x : DataW H × List MemPlace), DataW.trod enc P w0 0 spare held fuel t [v] = some x
structure HR (P : Program) (w0 : World) (H : Hp) (φ : Ph) (w : World) : Prop where
  blk : ∀ b x, φ b = some x → b < H.n ∧ (H.lim ≤ b → w0.heap.size ≤ x) ∧ ∃ o, w.heap[x]? = some o ∧ BRel P φ x (hget H b) o
  inj : ∀ b b' x, φ b = some x → φ b' = some x → (hget H b).kind ≠ 0 → (hget H b').kind ≠ 0 → b = b'
  n : H.n ≤ 32767
  lim : H.lim ≤ H.n
  below : Below w0.heap.size w0 w
  gl : GL P φ
  op : ∀ t v, φ.op (32 + t) v → Opq P w0 t v
  fz : ∀ x C, φ.fz x = some C → (∃ t fr, w.heap[x]? = some (.cells C.toArray t fr)) ∧ ∀ b, φ b = some x → H.lim ≤ b → (hget H b).kind = 0 ∨ (hget H b).kind = 7
  tl : ∀ b x, φ b = some x → (hget H b).kind = 6 ∨ (hget H b).kind = 7 → (hget H b).cs.length = φ.tl b
  /-- of the old blocks, only those frozen at the start -/
  fo : ∀ x C, φ.fz x = some C → w0.heap.size ≤ x ∨ φ.op 31 (.int .i64 x)

/-- from one memory to a later one -/
structure EX (H : Hp) (φ : Ph) (H' : Hp) (φ' : Ph) : Prop where
  keep : Le φ φ'
  fresh : ∀ b x, φ' b = some x → φ b = none → H.n ≤ b
  n : H.n ≤ H'.n
  lim : H'.lim = H.lim
  low : ∀ b, b < H.lim → b < 32768 → hget H' b = hget H b
  other : ∀ b, b < H.n → φ b = none → (hget H b).kind ≠ 6 → hget H' b = hget H b
  loop : ∀ b, b < H.n → b < 32768 → (hget H b).kind = 5 → (hget H' b).kind = 5
  fzn : ∀ x C, φ'.fz x = some C → φ.fz x = some C ∨ ∀ b, b < 32768 → φ b = some x → H.lim ≤ b ∨ (hget H b).kind = 0

theorem EX.refl (H : Hp) (φ : Ph) : EX H φ H φ := ⟨Le.refl φ, fun b x h h' => (by rw [h] at h'; cases h'), Nat.le_refl _, rfl, fun _ _ _ => rfl, fun _ _ _ _ => rfl, fun _ _ _ h => h, fun _ _ h => .inl h⟩
theorem EX.trans {H H' H'' : Hp} {φ φ' φ'' : Ph} (h : EX H φ H' φ') (k : EX H' φ' H'' φ'') : EX H φ H'' φ'' where
  keep := h.keep.trans k.keep
  fresh b x hb hn := by
    cases hφ : φ' b with
    | none => exact Nat.le_trans h.n (k.fresh b x hb hφ)
    | some y => exact h.fresh b y hφ hn
  n := Nat.le_trans h.n k.n
  lim := k.lim.trans h.lim
  low b hb hb' := (k.low b (h.lim ▸ hb) hb').trans (h.low b hb hb')
  other b hb hn h6 := by
    have hφ : φ' b = none := by
      cases hφ : φ' b with
      | none => rfl
      | some y => exact absurd (h.fresh b y hφ hn) (by omega)
    have e := h.other b hb hn h6
    exact (k.other b (Nat.lt_of_lt_of_le hb h.n) hφ (by rw [e]; exact h6)).trans e
  loop b hb hb' hk := k.loop b (Nat.lt_of_lt_of_le hb h.n) hb' (h.loop b hb hb' hk)
  fzn x C hx := by
    rcases k.fzn x C hx with h1 | h1
    · exact h.fzn x C h1
    · exact .inr fun b hbb hb => by
        rcases h1 b hbb (h.keep b x hb).1 with e | e
        · exact .inl (h.lim ▸ e)
        · by_cases hl : b < H.lim
          · exact .inr (by rw [← h.low b hl hbb]; exact e)
          · exact .inl (Nat.not_lt.1 hl)
end Go.Eng
