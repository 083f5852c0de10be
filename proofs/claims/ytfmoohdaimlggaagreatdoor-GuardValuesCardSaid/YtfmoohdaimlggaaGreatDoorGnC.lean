
/- A part of the proof that the evaluator in GnC, and the driver in GnZ, answer as the model does; no conditions. -/
import GoSem.Dispatch
namespace Go.Eng
noncomputable section

/-! ### small words for the kernel -/
def bi {α : Type} (b : Bool) (x y : α) : α := Bool.rec (motive := fun _ => α) y x b
def om {α β : Type} (o : Option α) (n : β) (f : α → β) : β := Option.rec (motive := fun _ => β) n f o
structure Box (α : Type) where
  run : α

/-! ### comparisons of whole numbers that look at both first (so that the kernel's own arithmetic is met where the numbers are known, and nothing is unfolded where they are not) -/
def gt {α : Type} (f : Nat → α) (a : Nat) : α := Nat.rec (motive := fun _ => α) (f 0) (fun n _ => f (Nat.succ n)) a
def gt2 {α : Type} (f : Nat → Nat → α) (a b : Nat) : α := gt (fun a => gt (fun b => f a b) b) a
def nbeq (a b : Nat) : Bool := gt2 (fun a b => Nat.beq a b) a b
def nble (a b : Nat) : Bool := gt2 (fun a b => Nat.ble a b) a b
theorem gt_eq {α : Type} (f : Nat → α) (a : Nat) : gt f a = f a := by cases a <;> rfl
theorem gt2_eq {α : Type} (f : Nat → Nat → α) (a b : Nat) : gt2 f a b = f a b := by unfold gt2; rw [gt_eq, gt_eq]
theorem nbeq_eq (a b : Nat) : nbeq a b = Nat.beq a b := gt2_eq _ _ _
theorem nble_eq (a b : Nat) : nble a b = Nat.ble a b := gt2_eq _ _ _
/-- tags: 0 to 7 a whole number, 8 bool, 9 string, 10 pointer, 11 slice, 12 map, 13 function, 14 yield, 15 row, 16 tuple, 17 nil, 18 nothing known, 19 undefined, 21 and 22 an int below 0 and not, 23 a value of one cell of which a property alone is known (p: its number); 24 a slice that nobody writes to (p: 0 nil, 1 not; s: 1, it has no room left; cs: its elements), 25 a slice over a list of its own (p: 0 nil, 1 not; q: the block; r: how many), 26 a pointer into what nobody writes to (q: the place; cs: the element), 27 a pointer into a list (p: the block; q: the place; r: which element; s: its size) -/
structure AV where
  tag : Nat
  p : Nat
  q : Nat
  r : Nat
  s : Nat
  cs : List AV

def mk1 (t p : Nat) : AV := ⟨t, p, 0, 0, 0, []⟩
/-- nothing is known -/
def unkV : AV := mk1 18 0
/-- the exact value that a temporary has before anything was put down -/
def udV : AV := mk1 19 0
def bV (b : Bool) : AV := mk1 8 (bi b 1 0)
def ptrV (b off : Nat) : AV := ⟨10, b, off, 0, 0, []⟩
def aggV (cs : List AV) : AV := ⟨15, 0, 0, 0, 0, cs⟩
def tupV (cs : List AV) : AV := ⟨16, 0, 0, 0, 0, cs⟩
/-- may stand in one cell -/
def okCell (v : AV) : Bool := bi (nble v.tag 14) true (bi (nbeq v.tag 17) true (nble 23 v.tag))

/-- nil, of the kind n -/
def isNil (a : AV) (n : Nat) : Bool := bi (nbeq a.tag 17) (nbeq a.p n) false

/-! ### a node of eight branches -/
structure Nd (α : Type) where
  a : α
  b : α
  c : α
  d : α
  e : α
  f : α
  g : α
  h : α
def ndAll {α : Type} (x : α) : Nd α := ⟨x, x, x, x, x, x, x, x⟩
def ndFun {α : Type} (f : Nat → α) : Nd α := ⟨f 0, f 1, f 2, f 3, f 4, f 5, f 6, f 7⟩
def get1 {α : Type} : Nat → Box (Nd α → α)
  | 0 => ⟨fun t => t.a⟩ | 1 => ⟨fun t => t.b⟩ | 2 => ⟨fun t => t.c⟩ | 3 => ⟨fun t => t.d⟩
  | 4 => ⟨fun t => t.e⟩ | 5 => ⟨fun t => t.f⟩ | 6 => ⟨fun t => t.g⟩ | _ => ⟨fun t => t.h⟩
def set1 {α : Type} : Nat → Box (Nd α → α → Nd α)
  | 0 => ⟨fun t x => ⟨x, t.b, t.c, t.d, t.e, t.f, t.g, t.h⟩⟩
  | 1 => ⟨fun t x => ⟨t.a, x, t.c, t.d, t.e, t.f, t.g, t.h⟩⟩
  | 2 => ⟨fun t x => ⟨t.a, t.b, x, t.d, t.e, t.f, t.g, t.h⟩⟩
  | 3 => ⟨fun t x => ⟨t.a, t.b, t.c, x, t.e, t.f, t.g, t.h⟩⟩
  | 4 => ⟨fun t x => ⟨t.a, t.b, t.c, t.d, x, t.f, t.g, t.h⟩⟩
  | 5 => ⟨fun t x => ⟨t.a, t.b, t.c, t.d, t.e, x, t.g, t.h⟩⟩
  | 6 => ⟨fun t x => ⟨t.a, t.b, t.c, t.d, t.e, t.f, x, t.h⟩⟩
  | _ => ⟨fun t x => ⟨t.a, t.b, t.c, t.d, t.e, t.f, t.g, x⟩⟩
abbrev Fr := Nd (Nd (Nd AV))
def d0 (i : Nat) : Nat := Nat.mod i 8
def d1 (i : Nat) : Nat := Nat.mod (Nat.div i 8) 8
def d2 (i : Nat) : Nat := Nat.div i 64
def getB (i : Nat) : Box (Fr → AV) :=
  bi (Nat.ble 511 i) ⟨fun _ => unkV⟩ ⟨fun T => (get1 (d0 i)).run ((get1 (d1 i)).run ((get1 (d2 i)).run T))⟩
def setB (i : Nat) : Box (Fr → AV → Fr) :=
  bi (Nat.ble 511 i) ⟨fun T _ => T⟩ ⟨fun T x => (set1 (d2 i)).run T ((set1 (d1 i)).run ((get1 (d2 i)).run T) ((set1 (d0 i)).run ((get1 (d1 i)).run ((get1 (d2 i)).run T)) x))⟩
def noFr : Fr := ndAll (ndAll (ndAll udV))

/-- the blocks for the deferred calls of loops over functions, laid by the activation (their numbers stand behind all temporaries) -/
def marksT (T : Fr) : List AV := ((get1 7).run ((get1 7).run ((get1 7).run T))).cs
def addMark (T : Fr) (b : Nat) : Fr := (set1 7).run T ((set1 7).run ((get1 7).run T) ((set1 7).run ((get1 7).run ((get1 7).run T)) ⟨16, 0, 0, 0, 0, mk1 3 b :: marksT T⟩))
/-- a frame without the marks -/
def noMk (T : Fr) : Fr := (set1 7).run T ((set1 7).run ((get1 7).run T) ((set1 7).run ((get1 7).run ((get1 7).run T)) udV))
/-- a frame as values -/
def encN {α : Type} (f : α → AV) (t : Nd α) : AV := tupV [f t.a, f t.b, f t.c, f t.d, f t.e, f t.f, f t.g, f t.h]
def nth0 (l : List AV) (n : Nat) : AV := Nat.rec (motive := fun _ => List AV → AV) (fun l => List.rec (motive := fun _ => AV) unkV (fun c _ _ => c) l) (fun _ ih l => List.rec (motive := fun _ => AV) unkV (fun _ t _ => ih t) l) n l
def decN {α : Type} (f : AV → α) (v : AV) : Nd α := ⟨f (nth0 v.cs 0), f (nth0 v.cs 1), f (nth0 v.cs 2), f (nth0 v.cs 3), f (nth0 v.cs 4), f (nth0 v.cs 5), f (nth0 v.cs 6), f (nth0 v.cs 7)⟩
def encF (T : Fr) : AV := encN (encN (encN fun v => v)) T
def decF (v : AV) : Fr := decN (decN (decN fun v => v)) v

/-! ### the memory -/
/-- kind 0: nothing is known; 1: cells (e = 1: these are all of them); 2: a map (t: its keys' tag; e: its clock; the entries: [key, value], p: born); 3: a walk over a map (cs: the map's value; the entries that are left); 4: a block for deferred calls, empty; 5: a loop over a function (t: 0 ready, 1 busy, 2 done, 3 exhausted; e: the pending jump, 0 none, 1 return, 2 + i exit i; cs: where its code stands, its frame); 6: a list (t: an element's size; cs: the elements), 7: such a list that nobody writes to any more -/
structure AB where
  kind : Nat
  t : Nat
  e : Nat
  cs : List AV
def noB : AB := ⟨0, 0, 0, []⟩
def cellsB (cs : List AV) (e : Nat) : AB := ⟨1, 0, e, cs⟩
abbrev HT := Nd (Nd (Nd (Nd (Nd AB))))
structure Hp where
  t : HT
  n : Nat
  lim : Nat
def noH : Hp := ⟨ndAll (ndAll (ndAll (ndAll (ndAll noB)))), 0, 0⟩
def dsel {α : Type} (t : Nd α) (j : Nat) : α :=
  bi (Nat.beq (Nat.land j 1) 0)
 (bi (Nat.beq (Nat.land j 2) 0) (bi (Nat.beq (Nat.land j 4) 0) t.a t.e) (bi (Nat.beq (Nat.land j 4) 0) t.c t.g))
 (bi (Nat.beq (Nat.land j 2) 0) (bi (Nat.beq (Nat.land j 4) 0) t.b t.f) (bi (Nat.beq (Nat.land j 4) 0) t.d t.h))
def dset {α : Type} (t : Nd α) (j : Nat) (x : α) : Nd α :=
  bi (Nat.beq (Nat.land j 1) 0)
 (bi (Nat.beq (Nat.land j 2) 0) (bi (Nat.beq (Nat.land j 4) 0) ⟨x, t.b, t.c, t.d, t.e, t.f, t.g, t.h⟩ ⟨t.a, t.b, t.c, t.d, x, t.f, t.g, t.h⟩)
 (bi (Nat.beq (Nat.land j 4) 0) ⟨t.a, t.b, x, t.d, t.e, t.f, t.g, t.h⟩ ⟨t.a, t.b, t.c, t.d, t.e, t.f, x, t.h⟩))
 (bi (Nat.beq (Nat.land j 2) 0) (bi (Nat.beq (Nat.land j 4) 0) ⟨t.a, x, t.c, t.d, t.e, t.f, t.g, t.h⟩ ⟨t.a, t.b, t.c, t.d, t.e, x, t.g, t.h⟩)
 (bi (Nat.beq (Nat.land j 4) 0) ⟨t.a, t.b, t.c, x, t.e, t.f, t.g, t.h⟩ ⟨t.a, t.b, t.c, t.d, t.e, t.f, t.g, x⟩))
def sh (i k : Nat) : Nat := Nat.shiftRight i k
def htget (t : HT) (i : Nat) : AB := dsel (dsel (dsel (dsel (dsel t (sh i 12)) (sh i 9)) (sh i 6)) (sh i 3)) i
def htset (t : HT) (i : Nat) (b : AB) : HT :=
  dset t (sh i 12) (dset (dsel t (sh i 12)) (sh i 9) (dset (dsel (dsel t (sh i 12)) (sh i 9)) (sh i 6) (dset (dsel (dsel (dsel t (sh i 12)) (sh i 9)) (sh i 6)) (sh i 3) (dset (dsel (dsel (dsel (dsel t (sh i 12)) (sh i 9)) (sh i 6)) (sh i 3)) i b))))
def hget (H : Hp) (i : Nat) : AB := gt (fun i => htget H.t i) i
def hset (H : Hp) (i : Nat) (b : AB) : Hp := ⟨gt (fun i => htset H.t i b) i, H.n, H.lim⟩
def hnew (H : Hp) (b : AB) : Hp := ⟨gt (fun n => htset H.t n b) H.n, gt Nat.succ H.n, H.lim⟩

/-! ### results -/
structure Res where
  tag : Nat        -- 0 on, 1 exit, 2 return, 3 failed
  i : Nat
  T : Fr
  H : Hp
structure CRes where
  ok : Nat         -- 1 returned; else failed
  why : Nat
  v : AV
  H : Hp
abbrev RL := List Res
def failR (n : Nat) : RL := [⟨3, n, noFr, noH⟩]
def failC (n : Nat) : List CRes := [⟨0, n, unkV, noH⟩]
abbrev Rec := AV → List AV → Hp → List CRes
abbrev Run := Rec → Fr → Hp → RL
abbrev BR := Box Run
abbrev Kont := Hp → AV → RL
def normK : BR := ⟨fun _ T H => [⟨0, 0, T, H⟩]⟩

/-! ### lists -/
def appL {α : Type} (x y : List α) : List α := List.rec (motive := fun _ => List α) y (fun a _ ih => a :: ih) x
def fmL {α β : Type} (l : List α) (f : α → List β) : List β := List.rec (motive := fun _ => List β) [] (fun a t ih => List.rec (motive := fun _ => List β) (f a) (fun _ _ _ => appL (f a) ih) t) l
def dropL {α : Type} (l : List α) (n : Nat) : List α := Nat.rec (motive := fun _ => List α → List α) (fun l => l) (fun _ ih l => List.rec (motive := fun _ => List α) [] (fun _ t _ => ih t) l) n l
def takeL {α : Type} (l : List α) (n : Nat) : Option (List α) :=
  Nat.rec (motive := fun _ => List α → Option (List α)) (fun _ => some []) (fun _ ih l => List.rec (motive := fun _ => Option (List α)) none (fun c t _ => om (ih t) none fun x => some (c :: x)) l) n l
def nthL (l : List AV) (n : Nat) : AV := Nat.rec (motive := fun _ => List AV → AV) (fun l => List.rec (motive := fun _ => AV) unkV (fun c _ _ => c) l) (fun _ ih l => List.rec (motive := fun _ => AV) unkV (fun _ t _ => ih t) l) n l
def lenL {α : Type} (l : List α) : Nat := List.rec (motive := fun _ => Nat) 0 (fun _ _ ih => Nat.succ ih) l
def over (new : List AV) : List AV → Option (List AV) :=
  List.rec (motive := fun _ => List AV → Option (List AV)) (fun cs => some cs) (fun x _ ih cs => List.rec (motive := fun _ => Option (List AV)) none (fun _ cs' _ => om (ih cs') none fun r => some (x :: r)) cs) new
def putC (off : Nat) (new cs : List AV) : Option (List AV) :=
  Nat.rec (motive := fun _ => List AV → Option (List AV)) (fun cs => over new cs)
    (fun _ ih cs => List.rec (motive := fun _ => Option (List AV)) none (fun c cs _ => om (ih cs) none fun r => some (c :: r)) cs) off cs
def allL {α : Type} (f : α → Bool) (l : List α) : Bool := List.rec (motive := fun _ => Bool) true (fun a _ ih => bi (f a) ih false) l
def cellsOf (v : AV) : List AV := bi (nbeq v.tag 15) v.cs [v]
/-- all cells of elements -/
def flatL (l : List AV) : List AV := List.rec (motive := fun _ => List AV) [] (fun e _ ih => appL (cellsOf e) ih) l
def repL {α : Type} (n : Nat) (l : List α) : List α := Nat.rec (motive := fun _ => List α) [] (fun _ ih => appL l ih) n
def repC (n : Nat) (cs : List AV) : List AV := Nat.rec (motive := fun _ => List AV) [] (fun _ ih => appL cs ih) n

/-! ### constants -/
def kCode : IntKind → Nat
  | .i8 => 0 | .i16 => 1 | .i32 => 2 | .i64 => 3 | .u8 => 4 | .u16 => 5 | .u32 => 6 | .u64 => 7
def kBits (c : Nat) : Nat := Nat.shiftLeft 8 (Nat.mod c 4)
def kMod (c : Nat) : Nat := Nat.pow 2 (kBits c)
def kHalf (c : Nat) : Nat := bi (nble 4 c) (kMod c) (Nat.div (kMod c) 2)
def isNeg (c a : Nat) : Bool := nble (kHalf c) a
def bytesN (l : List UInt8) : Nat := l.foldl (fun n b => Nat.add (Nat.mul n 256) b.toNat) 0
def intV (k : IntKind) (n : Int) : AV := Int.rec (motive := fun _ => AV) (fun a => bi (nble (Nat.succ a) (kHalf (kCode k))) (mk1 (kCode k) a) unkV)
  (fun a => bi (nble 4 (kCode k)) unkV (bi (nble (Nat.succ a) (kHalf (kCode k))) (mk1 (kCode k) (Nat.sub (kMod (kCode k)) (Nat.succ a))) unkV)) n
def atomOf : Value → AV
  | .int k n => intV k n
  | .bool b => bV b
  | .string s => ⟨9, bytesN s.data.toList, s.size, 0, 0, []⟩
  | .pointer none => mk1 17 0
  | .slice none 0 0 => mk1 17 1
  | .map none => mk1 17 2
  | .nilFunc => mk1 17 3
  | .nilIface => mk1 17 4
  | _ => unkV
def avOf : Value → AV
  | .agg cs => bi (allL okCell (cs.toList.map atomOf)) (aggV (cs.toList.map atomOf)) unkV
  | v => atomOf v

section
variable (P : Program)
def tyB (t : TypeId) : Box (Option TypeDesc) := ⟨P.underlying t⟩
def szB (t : TypeId) : Box (Option Nat) := ⟨(P.info? t).map (·.size)⟩
def btB (t : TypeId) : Box (Option Nat) := ⟨(P.info? t).map (·.bytes)⟩
/-- the zero value, if all of it is known -/
def zeB (t : TypeId) : Box (Option AV) := ⟨((P.info? t).bind (·.zero)).bind fun z => bi (nbeq (avOf z).tag 18) none (some (avOf z))⟩
def isAggT (t : TypeId) : Bool := match (tyB P t).run with | some (.struct _) => true | some (.array _ _) => true | _ => false

/-! ### what one operation does: its operands' values, the memory, what comes behind -/
inductive OpC where
  | c0 (f : Box (Hp → Kont → RL))
  | c1 (x : Operand) (f : Box (AV → Hp → Kont → RL))
  | c2 (x y : Operand) (f : Box (AV → AV → Hp → Kont → RL))
  | c3 (x y z : Operand) (f : Box (AV → AV → AV → Hp → Kont → RL))
  | cN (xs : List Operand) (f : Box (List AV → Hp → Kont → RL))
  | call (x : Operand) (xs : List Operand)
def badC (n : Nat) : OpC := .c0 ⟨fun _ _ => failR n⟩
def cellsOk (v : AV) : Bool := bi (okCell v) true (nbeq v.tag 15)
def newC (H : Hp) (B : AB) (mk : Nat → AV) (c : Kont) : RL := bi (nble H.n 32766) (c (hnew H B) (mk H.n)) (failR 70)
def setC (H : Hp) (b : Nat) (B : AB) (v : AV) (c : Kont) : RL := bi (nble H.lim b) (c (hset H b B) v) (failR 71)
def ptr0 (b : Nat) : AV := ptrV b 0
def moveC : Box (AV → Hp → Kont → RL) := ⟨fun v H c => c H v⟩
def pickC : Box (AV → AV → AV → Hp → Kont → RL) := ⟨fun a b d H c => bi (nbeq a.tag 8) (bi (nbeq a.p 1) (c H b) (c H d)) (failR 2)⟩
def allocC (z : AV) : Box (Hp → Kont → RL) := ⟨fun H c => newC H (cellsB (cellsOf z) 1) ptr0 c⟩
def boxC : Box (AV → Hp → Kont → RL) := ⟨fun v H c => bi (cellsOk v) (newC H (cellsB (cellsOf v) 1) ptr0 c) (failR 4)⟩
def loadA (sz : Nat) : Box (AV → Hp → Kont → RL) := ⟨fun a H c => bi (nbeq a.tag 10) (bi (nbeq (hget H a.p).kind 1) (om (takeL (dropL (hget H a.p).cs a.q) sz) (failR 6) fun l => c H (aggV l)) (failR 6)) (failR 6)⟩
def knownK (v : AV) (H : Hp) (c : Kont) (n : Nat) : RL := bi (nbeq v.tag 18) (failR n) (c H v)
def load1 : Box (AV → Hp → Kont → RL) := ⟨fun a H c => bi (nbeq a.tag 10) (bi (nbeq (hget H a.p).kind 1) (knownK (nthL (hget H a.p).cs a.q) H c 6) (failR 6)) (failR 6)⟩
def storeC (sz : Nat) : Box (AV → AV → Hp → Kont → RL) := ⟨fun a x H c => bi (nbeq a.tag 10) (bi (nbeq (hget H a.p).kind 1) (bi (cellsOk x) (bi (nbeq (lenL (cellsOf x)) sz)
  (om (putC a.q (cellsOf x) (hget H a.p).cs) (failR 7) fun cs => setC H a.p ⟨1, (hget H a.p).t, (hget H a.p).e, cs⟩ udV c) (failR 7)) (failR 7)) (failR 7)) (failR 7)⟩
def nilC : Box (AV → Hp → Kont → RL) := ⟨fun v H c => bi (nble v.tag 16) (c H v) (failR 8)⟩
def int2 (k : Nat) (f : Box (Nat → Nat → AV)) : Box (AV → AV → Hp → Kont → RL) := ⟨fun a b H c => bi (nbeq a.tag k) (bi (nbeq b.tag k) (c H (f.run a.p b.p)) (failR 9)) (failR 9)⟩
def int2z (k : Nat) (f : Box (Nat → Nat → AV)) : Box (AV → AV → Hp → Kont → RL) := ⟨fun a b H c => bi (nbeq a.tag k) (bi (nbeq b.tag k) (bi (nbeq b.p 0) (failR 9) (c H (f.run a.p b.p))) (failR 9)) (failR 9)⟩
def biased (c a : Nat) : Nat := gt (fun a => Nat.mod (Nat.add a (kHalf c)) (kMod c)) a
def magn (c a : Nat) : Nat := bi (isNeg c a) (Nat.sub (kMod c) a) a
def negN (c a : Nat) : Nat := gt (fun a => Nat.mod (Nat.sub (kMod c) a) (kMod c)) a
def xb (a b : Bool) : Bool := bi a (bi b false true) b
def quoN (c a b : Nat) : Nat := bi (xb (isNeg c a) (isNeg c b)) (negN c (Nat.div (magn c a) (magn c b))) (Nat.mod (Nat.div (magn c a) (magn c b)) (kMod c))
def remN (c a b : Nat) : Nat := bi (isNeg c a) (negN c (Nat.mod (magn c a) (magn c b))) (Nat.mod (magn c a) (magn c b))
def nb (b : Bool) : Bool := bi b false true
def intC (op : BinOp) (c : Nat) : Option (Box (AV → AV → Hp → Kont → RL)) := match op with
  | .add => some (int2 c ⟨fun a b => mk1 c (gt2 (fun a b => Nat.mod (Nat.add a b) (kMod c)) a b)⟩)
  | .sub => some (int2 c ⟨fun a b => mk1 c (gt2 (fun a b => Nat.mod (Nat.sub (Nat.add a (kMod c)) b) (kMod c)) a b)⟩)
  | .mul => some (int2 c ⟨fun a b => mk1 c (gt2 (fun a b => Nat.mod (Nat.mul a b) (kMod c)) a b)⟩)
  | .and => some (int2 c ⟨fun a b => mk1 c (gt2 (fun a b => Nat.land a b) a b)⟩)
  | .or => some (int2 c ⟨fun a b => mk1 c (gt2 (fun a b => Nat.lor a b) a b)⟩)
  | .xor => some (int2 c ⟨fun a b => mk1 c (gt2 (fun a b => Nat.xor a b) a b)⟩)
  | .andNot => some (int2 c ⟨fun a b => mk1 c (gt2 (fun a b => Nat.land a (Nat.sub (Nat.pred (kMod c)) b)) a b)⟩)
  | .eql => some (int2 c ⟨fun a b => bV (nbeq a b)⟩)
  | .neq => some (int2 c ⟨fun a b => bV (nb (nbeq a b))⟩)
  | .lss => some (int2 c ⟨fun a b => bV (nb (nble (biased c b) (biased c a)))⟩)
  | .leq => some (int2 c ⟨fun a b => bV (nble (biased c a) (biased c b))⟩)
  | .gtr => some (int2 c ⟨fun a b => bV (nb (nble (biased c a) (biased c b)))⟩)
  | .geq => some (int2 c ⟨fun a b => bV (nble (biased c b) (biased c a))⟩)
  | .quo => some (int2z c ⟨fun a b => mk1 c (gt2 (fun a b => quoN c a b) a b)⟩)
  | .rem => some (int2z c ⟨fun a b => mk1 c (gt2 (fun a b => remN c a b) a b)⟩)
  | _ => none
def shlN (c a n : Nat) : Nat := gt2 (fun a n => bi (nble (kBits c) n) 0 (Nat.mod (Nat.shiftLeft a n) (kMod c))) a n
def shrN (c a n : Nat) : Nat := gt2 (fun a n => bi (isNeg c a)
  (bi (nble (kBits c) n) (Nat.pred (kMod c)) (Nat.sub (Nat.pred (kMod c)) (Nat.shiftRight (Nat.sub (Nat.pred (kMod c)) a) n)))
  (bi (nble (kBits c) n) 0 (Nat.shiftRight a n))) a n
def shC (left : Bool) (c d : Nat) : Box (AV → AV → Hp → Kont → RL) :=
  ⟨fun a b H k => bi (nbeq a.tag c) (bi (nbeq b.tag d) (bi (isNeg d b.p) (failR 9) (k H (mk1 c (bi left (shlN c a.p b.p) (shrN c a.p b.p))))) (failR 9)) (failR 9)⟩
/-- against nil: n the nil's number, m the tag of what is not nil -/
def nilEqC (want : Bool) (n m : Nat) : Box (AV → AV → Hp → Kont → RL) := ⟨fun a b H c =>
  bi (isNil a n)
 (bi (isNil b n) (c H (bV want)) (bi (nbeq b.tag m) (c H (bV (nb want))) (failR 9)))
 (bi (nbeq a.tag m) (bi (isNil b n) (c H (bV (nb want))) (failR 9)) (failR 9))⟩
def boolEqC (want : Bool) : Box (AV → AV → Hp → Kont → RL) := ⟨fun a b H c => bi (nbeq a.tag 8) (bi (nbeq b.tag 8) (c H (bV (bi want (nbeq a.p b.p) (nb (nbeq a.p b.p))))) (failR 9)) (failR 9)⟩
def strEqC (want : Bool) : Box (AV → AV → Hp → Kont → RL) := ⟨fun a b H c => bi (nbeq a.tag 9) (bi (nbeq b.tag 9)
  (c H (bV (bi want (bi (nbeq a.q b.q) (nbeq a.p b.p) false) (nb (bi (nbeq a.q b.q) (nbeq a.p b.p) false))))) (failR 9)) (failR 9)⟩
def catC : Box (AV → AV → Hp → Kont → RL) := ⟨fun a b H c => bi (nbeq a.tag 9) (bi (nbeq b.tag 9) (bi (nble (Nat.add a.q b.q) 1000000)
  (c H ⟨9, Nat.add (Nat.mul a.p (Nat.pow 256 b.q)) b.p, Nat.add a.q b.q, 0, 0, []⟩) (failR 9)) (failR 9)) (failR 9)⟩
/-- a < b, as words -/
def strLtN (ap aq bp bq : Nat) : Bool :=
  bi (nble (Nat.succ (Nat.mul ap (Nat.pow 256 bq))) (Nat.mul bp (Nat.pow 256 aq))) true
 (bi (nbeq (Nat.mul ap (Nat.pow 256 bq)) (Nat.mul bp (Nat.pow 256 aq))) (nble (Nat.succ aq) bq) false)
def strLt (a b : AV) : Bool := gt2 (fun ap aq => gt2 (fun bp bq => strLtN ap aq bp bq) b.p b.q) a.p a.q
def strCmpC (f : AV → AV → Bool) : Box (AV → AV → Hp → Kont → RL) := ⟨fun a b H c => bi (nbeq a.tag 9) (bi (nbeq b.tag 9) (c H (bV (f a b))) (failR 9)) (failR 9)⟩
/-- two cells of one tag -/
def cellEq (tag off : Nat) : Box (List AV → List AV → Option Bool) := ⟨fun x y => bi (nbeq (nthL x off).tag tag) (bi (nbeq (nthL y off).tag tag)
  (some (bi (nbeq (nthL x off).q (nthL y off).q) (nbeq (nthL x off).p (nthL y off).p) false)) none) none⟩
def fieldEq (d : TypeDesc) (sub : Option (Box (List AV → List AV → Option Bool))) (off sz : Nat) : Option (Box (List AV → List AV → Option Bool)) := match d with
  | .int k => some (cellEq (kCode k) off)
  | .bool => some (cellEq 8 off)
  | .string => some (cellEq 9 off)
  | .struct _ => om sub none fun g => some ⟨fun x y => om (takeL (dropL x off) sz) none fun x' => om (takeL (dropL y off) sz) none fun y' => g.run x' y'⟩
  | _ => none
def eqFs (ih : TypeId → Option (Box (List AV → List AV → Option Bool))) (l : List Field) : Option (Box (List AV → List AV → Option Bool)) := match l with
  | [] => some ⟨fun _ _ => some true⟩
  | f :: l => bi (f.name == "_") none (om (szB P f.type).run none fun sz => om (tyB P f.type).run none fun d => om (fieldEq d (ih f.type) f.offset sz) none fun g => om (eqFs ih l) none fun r =>
      some ⟨fun x y => om (g.run x y) none fun b => om (r.run x y) none fun b' => some (bi b b' false)⟩)
/-- '==' of two structs, by their cells -/
def eqTB (fuel : Nat) : TypeId → Option (Box (List AV → List AV → Option Bool)) :=
  Nat.rec (motive := fun _ => TypeId → Option (Box (List AV → List AV → Option Bool))) (fun _ => none)
    (fun _ ih t => match (tyB P t).run with | some (.struct fs) => bi (P.stoodInHeld t) none (eqFs P ih fs.toList) | _ => none) fuel
def aggEqC (want : Bool) (g : Box (List AV → List AV → Option Bool)) : Box (AV → AV → Hp → Kont → RL) := ⟨fun a b H c => bi (nbeq a.tag 15) (bi (nbeq b.tag 15)
  (om (g.run a.cs b.cs) (failR 9) fun e => c H (bV (bi want e (nb e)))) (failR 9)) (failR 9)⟩
def badB2 : Box (AV → AV → Hp → Kont → RL) := ⟨fun _ _ _ _ => failR 9⟩
/-! what nobody writes to (24, 26), lists of their own (25, 27) -/
def takeN {α : Type} (n : Nat) (l : List α) : List α := Nat.rec (motive := fun _ => List α → List α) (fun _ => []) (fun _ ih l => List.rec (motive := fun _ => List α) [] (fun c t _ => c :: ih t) l) n l
def putN {α : Type} (x : α) (n : Nat) (l : List α) : List α := Nat.rec (motive := fun _ => List α → List α) (fun l => List.rec (motive := fun _ => List α) [] (fun _ t _ => x :: t) l) (fun _ ih l => List.rec (motive := fun _ => List α) [] (fun c t _ => c :: ih t) l) n l
def catO {α : Type} (l : List (Option (List α))) : Option (List α) := List.rec (motive := fun _ => Option (List α)) (some []) (fun o _ ih => om o none fun x => om ih none fun y => some (appL x y)) l
/-- the types of a type's cells -/
def cellTs (fuel : Nat) : TypeId → Option (List TypeId) := Nat.rec (motive := fun _ => TypeId → Option (List TypeId)) (fun _ => none)
  (fun _ ih t => match (tyB P t).run with
    | some (.struct fs) => catO (fs.toList.map fun f => ih f.type)
    | some (.array n e) => om (ih e) none fun l => some (repL n l)
    | some _ => some [t]
    | none => none) fuel
def kTag (t : TypeId) : Option Nat := match (tyB P t).run with
  | some (.int k) => some (kCode k)
  | some .bool => some 8
  | some .string => some 9
  | some (.slice e) => om (szB P e).run none fun n => some (Nat.add 32 n)
  | _ => none
def kTags (l : List TypeId) : Option (List Nat) := List.rec (motive := fun _ => Option (List Nat)) (some []) (fun t _ ih => om (kTag P t) none fun k => om ih none fun ks => some (k :: ks)) l
/-- the tags of a type's cells, where each of them can be told -/
def ksB (t : TypeId) : Box (Option (List Nat)) := ⟨om (cellTs P 20 t) none (kTags P)⟩
def tagIs (k : Nat) (c : AV) : Bool := bi (nble 32 k) (bi (nbeq c.tag 24) (nbeq c.r (Nat.sub k 32)) false) (nbeq c.tag k)
def tagsAt (ks : List Nat) (cs : List AV) : Nat → Bool := List.rec (motive := fun _ => Nat → Bool) (fun _ => true) (fun k _ ih j => bi (tagIs k (nthL cs j)) (ih (Nat.succ j)) false) ks
def canC (k : Nat) (c : AV) : AV := bi (nble k 8) (mk1 k c.p) (bi (nbeq k 9) ⟨9, c.p, c.q, 0, 0, []⟩ ⟨24, c.p, 0, Nat.sub k 32, 0, c.cs⟩)
def canAt (ks : List Nat) (cs : List AV) : Nat → List AV := List.rec (motive := fun _ => Nat → List AV) (fun _ => []) (fun k _ ih j => canC k (nthL cs j) :: ih (Nat.succ j)) ks
def elemV (agg : Bool) (l : List AV) : AV := bi agg (aggV l) (nthL l 0)
def isL (B : AB) : Bool := bi (nbeq B.kind 6) true (nbeq B.kind 7)
def peekY (agg : Bool) (ks : List Nat) (cs : List AV) (q : Nat) (H : Hp) (c : Kont) : RL := bi (tagsAt ks cs q) (c H (elemV agg (canAt ks cs q))) (failR 201)
def loadY (agg : Bool) (sz : Nat) (ko : Option (List Nat)) : Box (AV → Hp → Kont → RL) := ⟨fun a H c => om ko (failR 201) fun ks => bi (nb (nbeq (lenL ks) (bi agg sz 1))) (failR 201) <|
  bi (nbeq a.tag 26) (peekY agg ks (cellsOf (nthL a.cs 0)) a.q H c)
 (bi (nbeq a.tag 27) (bi (isL (hget H a.p)) (bi (nbeq a.s (hget H a.p).t) (peekY agg ks (cellsOf (nthL (hget H a.p).cs a.r)) a.q H c) (failR 201)) (failR 201)) (failR 201))⟩
def storeY (agg : Bool) (sz : Nat) (ko : Option (List Nat)) : Box (AV → AV → Hp → Kont → RL) := ⟨fun a x H c => om ko (failR 202) fun ks => bi (nb (bi agg true (nbeq sz 1))) (failR 202) <|
  bi (nbeq a.tag 27) (bi (nbeq a.q 0) (bi (nbeq a.s sz) (bi (nbeq (hget H a.p).kind 6) (bi (nbeq (hget H a.p).t sz) (bi (nbeq (lenL ks) sz) (bi (nbeq (lenL (cellsOf x)) sz) (bi (tagsAt ks (cellsOf x) 0)
    (setC H a.p ⟨6, sz, (hget H a.p).e, putN (elemV agg (canAt ks (cellsOf x) 0)) a.r (hget H a.p).cs⟩ udV c) (failR 202)) (failR 202)) (failR 202)) (failR 202)) (failR 202)) (failR 202)) (failR 202)) (failR 202)⟩
def nilY : Box (AV → Hp → Kont → RL) := ⟨fun v H c => bi (bi (nbeq v.tag 26) true (nbeq v.tag 27)) (c H v) (failR 203)⟩
def fieldAddrY (off : Nat) : Box (AV → Hp → Kont → RL) := ⟨fun v H c => bi (nbeq v.tag 26) (c H ⟨26, 0, Nat.add v.q off, 0, 0, [nthL v.cs 0]⟩) (bi (nbeq v.tag 27) (c H ⟨27, v.p, Nat.add v.q off, v.r, v.s, []⟩) (failR 204))⟩
/-- an index: an int, or a number without a sign -/
def ixT (i : AV) : Bool := bi (nbeq i.tag 3) true (bi (nble 4 i.tag) (nble i.tag 7) false)
def ixSlY (sz : Nat) : Box (AV → AV → Hp → Kont → RL) := ⟨fun x i H c => bi (ixT i)
  (bi (nbeq x.tag 24) (bi (nbeq x.r sz) (bi (nble (Nat.succ i.p) (lenL x.cs)) (c H ⟨26, 0, 0, 0, 0, [nthL x.cs i.p]⟩) (failR 205)) (failR 205))
 (bi (nbeq x.tag 25) (bi (isL (hget H x.q)) (bi (nbeq (hget H x.q).t sz) (bi (nble (Nat.succ i.p) x.r) (c H ⟨27, x.q, 0, i.p, sz, []⟩) (failR 205)) (failR 205)) (failR 205)) (failR 205))) (failR 205)⟩
def lenY : Box (AV → Hp → Kont → RL) := ⟨fun v H c => bi (nbeq v.tag 24) (c H (mk1 3 (lenL v.cs))) (bi (nbeq v.tag 25) (bi (isL (hget H v.q)) (c H (mk1 3 v.r)) (failR 206)) (failR 206))⟩
/-- a slice against nil -/
def nilEqY (want : Bool) : Box (AV → AV → Hp → Kont → RL) := ⟨fun a b H c => bi (isNil b 1) (bi (bi (nbeq a.tag 24) true (nbeq a.tag 25)) (c H (bV (bi want (nbeq a.p 0) (nb (nbeq a.p 0))))) (failR 207)) (failR 207)⟩
def cutY (sz : Nat) (hasHi : Bool) : Box (AV → AV → AV → Hp → Kont → RL) := ⟨fun x l h H c => bi (nbeq l.tag 3)
  (bi (bi (nbeq x.tag 24) (nbeq x.r sz) false) ((fun hi : AV => bi (nbeq hi.tag 3) (bi (nble hi.p (lenL x.cs)) (bi (nble l.p hi.p) (c H ⟨24, x.p, 0, x.r, 0, dropL (takeN hi.p x.cs) l.p⟩) (failR 208)) (failR 208)) (failR 208)) (bi hasHi h (mk1 3 (lenL x.cs))))
 (bi (nbeq x.tag 25) (bi (isL (hget H x.q)) ((fun hi : AV => bi (nbeq hi.tag 3) (bi (nbeq l.p 0) (bi (nble hi.p x.r) (c H ⟨25, x.p, x.q, hi.p, 0, []⟩) (failR 208)) (failR 208)) (failR 208)) (bi hasHi h (mk1 3 x.r))) (failR 208)) (failR 208))) (failR 208)⟩
def cut3Y (sz : Nat) : Box (List AV → Hp → Kont → RL) := ⟨fun vs H c => (fun x l h m : AV => bi (bi (nbeq l.tag 3) (bi (nbeq h.tag 3) (nbeq m.tag 3) false) false)
  (bi (bi (nbeq x.tag 24) (nbeq x.r sz) false) (bi (nbeq h.p m.p) (bi (nble h.p (lenL x.cs)) (bi (nble l.p h.p) (c H ⟨24, x.p, 0, x.r, 1, dropL (takeN h.p x.cs) l.p⟩) (failR 209)) (failR 209)) (failR 209)) (failR 209)) (failR 209)) (nthL vs 0) (nthL vs 1) (nthL vs 2) (nthL vs 3)⟩
/-- the values are taken out, for good: what they stand for is not written to any more -/
def frzB (H : Hp) (b : Nat) : Hp := hset H b ⟨7, (hget H b).t, (hget H b).e, (hget H b).cs⟩
def frzC (ih : TypeId → Nat → List AV → Hp → Option (List AV × Hp)) (t : TypeId) (c : AV) (H : Hp) : Option (AV × Hp) := match (tyB P t).run with
  | some (.slice e) => om (szB P e).run none fun sz => bi (nbeq c.tag 24) (bi (nbeq c.r sz) (some (⟨24, c.p, 0, sz, 0, c.cs⟩, H)) none) (bi (isNil c 1) (some (⟨24, 0, 0, sz, 0, []⟩, H))
 (bi (nbeq c.tag 25) (bi (bi (nble H.lim c.q) (nble (Nat.succ c.q) H.n) false) (bi (isL (hget H c.q)) (bi (nbeq (hget H c.q).t sz) (some (⟨24, bi (nbeq c.p 0) 0 1, 0, sz, 0, takeN c.r (hget H c.q).cs⟩, frzB H c.q)) none) none) none)
 (bi (nbeq c.tag 11) (bi (nbeq (hget H c.p).kind 1) (bi (nble 1 sz) (bi (nble c.r 100000) (om (takeL (dropL (hget H c.p).cs c.q) (Nat.mul c.r sz)) none fun cells =>
          om (ih e c.r cells (hset H c.p noB)) none fun x => bi (nble H.lim c.p) (some (⟨24, 1, 0, sz, 0, x.1⟩, x.2)) none) none) none) none) none)))
  | some (.pointer _) => bi (isNil c 0) (some (c, H)) none
  | some (.map _ _) => bi (isNil c 2) (some (c, H)) none
  | some (.func _ _ _) => bi (isNil c 3) (some (c, H)) none
  | _ => om (kTag P t) none fun k => bi (nbeq c.tag k) (some (canC k c, H)) none
def frzL (ih : TypeId → Nat → List AV → Hp → Option (List AV × Hp)) (ts : List TypeId) : List AV → Hp → Option (List AV × Hp) := List.rec (motive := fun _ => List AV → Hp → Option (List AV × Hp))
  (fun cs H => List.rec (motive := fun _ => Option (List AV × Hp)) (some ([], H)) (fun _ _ _ => none) cs)
  (fun t _ ihl cs H => List.rec (motive := fun _ => Option (List AV × Hp)) none (fun c cs _ => om (frzC P ih t c H) none fun x => om (ihl cs x.2) none fun y => some (x.1 :: y.1, y.2)) cs) ts
/-- n values of a type, out of their cells, one element each -/
def frzE (fuel : Nat) : TypeId → Nat → List AV → Hp → Option (List AV × Hp) := Nat.rec (motive := fun _ => TypeId → Nat → List AV → Hp → Option (List AV × Hp)) (fun _ _ _ _ => none)
  (fun _ ih t n => om (cellTs P 20 t) (fun _ _ => none) fun ts => om (szB P t).run (fun _ _ => none) fun sz => bi (bi (nbeq (lenL ts) sz) (bi (isAggT P t) true (nbeq sz 1)) false) (Nat.rec (motive := fun _ => List AV → Hp → Option (List AV × Hp)) (fun cs H => List.rec (motive := fun _ => Option (List AV × Hp)) (some ([], H)) (fun _ _ _ => none) cs)
    (fun _ ihn cs H => om (takeL cs (lenL ts)) none fun x => om (frzL P ih ts x H) none fun y => om (ihn (dropL cs (lenL ts)) y.2) none fun z => some (elemV (isAggT P t) y.1 :: z.1, z.2)) n) (fun _ _ => none)) fuel
/-- the elements that append adds -/
def newsY (t : TypeId) (sz : Nat) (H : Hp) (y : AV) : Option (List AV × Hp) :=
  bi (nbeq y.tag 24) (bi (nbeq y.r sz) (some (y.cs, H)) none) (bi (isNil y 1) (some ([], H)) (bi (nbeq y.tag 25) (bi (isL (hget H y.q)) (bi (nbeq (hget H y.q).t sz) (some (takeN y.r (hget H y.q).cs, H)) none) none)
 (bi (nbeq y.tag 11) (bi (nbeq (hget H y.p).kind 1) (om (takeL (dropL (hget H y.p).cs y.q) (Nat.mul y.r sz)) none fun cells => frzE P 20 t y.r cells H) none) none)))
def appOwn (sz : Nat) (p : Nat) (cs news : List AV) (H : Hp) (c : Kont) : RL := bi (nble 1 sz) (bi (nble (Nat.add (lenL cs) (lenL news)) 100000)
  (newC H ⟨6, sz, 0, appL cs news⟩ (fun b => ⟨25, bi (nbeq (lenL news) 0) p 1, b, Nat.add (lenL cs) (lenL news), 0, []⟩) c) (failR 211)) (failR 211)
def appendY (t : TypeId) (sz bt : Nat) : Box (AV → AV → Hp → Kont → RL) := ⟨fun x y H c => om (newsY P t sz H y) (failR 212) fun z =>
  bi (nbeq x.tag 25) (bi (nbeq (hget z.2 x.q).kind 6) (bi (nbeq (hget z.2 x.q).t sz) (bi (bi (nble z.2.lim x.q) (nble (Nat.succ x.q) z.2.n) false) (appOwn sz x.p (takeN x.r (hget z.2 x.q).cs) z.1 (hset z.2 x.q noB) c) (failR 212)) (failR 212)) (failR 212))
 (bi (nbeq x.tag 24) (bi (nbeq x.s 1) (bi (nbeq (lenL x.cs) 0) (appOwn sz (bi (nbeq x.p 0) 0 2) [] z.1 z.2 c) (failR 212)) (failR 212)) (bi (isNil x 1) (appOwn sz 0 [] z.1 z.2 c) (failR 212)))⟩
/-- the one where the tag is below 24, or else the other -/
def orY1 (f g : Box (AV → Hp → Kont → RL)) : Box (AV → Hp → Kont → RL) := ⟨fun a H c => bi (nble a.tag 23) (f.run a H c) (g.run a H c)⟩
def orY2 (f g : Box (AV → AV → Hp → Kont → RL)) : Box (AV → AV → Hp → Kont → RL) := ⟨fun a b H c => bi (nble a.tag 23) (f.run a b H c) (g.run a b H c)⟩
def orY3 (f g : Box (AV → AV → AV → Hp → Kont → RL)) : Box (AV → AV → AV → Hp → Kont → RL) := ⟨fun a b d H c => bi (nble a.tag 23) (f.run a b d H c) (g.run a b d H c)⟩
def orYN (f g : Box (List AV → Hp → Kont → RL)) : Box (List AV → Hp → Kont → RL) := ⟨fun a H c => bi (nble (nthL a 0).tag 23) (f.run a H c) (g.run a H c)⟩
def strOpC (op : BinOp) : Box (AV → AV → Hp → Kont → RL) := match op with
  | .eql => strEqC true
  | .neq => strEqC false
  | .lss => strCmpC strLt
  | .gtr => strCmpC fun a b => strLt b a
  | .leq => strCmpC fun a b => nb (strLt b a)
  | .geq => strCmpC fun a b => nb (strLt a b)
  | .add => catC
  | _ => badB2
def nilOpC (op : BinOp) (n m : Nat) : Box (AV → AV → Hp → Kont → RL) := match op with | .eql => nilEqC true n m | .neq => nilEqC false n m | _ => badB2
def boolOpC (op : BinOp) : Box (AV → AV → Hp → Kont → RL) := match op with | .eql => boolEqC true | .neq => boolEqC false | _ => badB2
def aggOpC (op : BinOp) (t : TypeId) : Box (AV → AV → Hp → Kont → RL) := bi (P.eqGuardType P.depth t) badB2 (om (eqTB P 20 t) badB2 fun g => match op with | .eql => aggEqC true g | .neq => aggEqC false g | _ => badB2)
/-- a sign alone is known of the one, and the other is 0 -/
def signC (op : BinOp) (f : Box (AV → AV → Hp → Kont → RL)) : Box (AV → AV → Hp → Kont → RL) := match op with
  | .lss => ⟨fun a b H c => bi (nble a.tag 20) (f.run a b H c) (bi (bi (nbeq b.tag 3) (nbeq b.p 0) false) (bi (nbeq a.tag 21) (c H (bV true)) (bi (nbeq a.tag 22) (c H (bV false)) (failR 9))) (failR 9))⟩
  | .geq => ⟨fun a b H c => bi (nble a.tag 20) (f.run a b H c) (bi (bi (nbeq b.tag 3) (nbeq b.p 0) false) (bi (nbeq a.tag 21) (c H (bV false)) (bi (nbeq a.tag 22) (c H (bV true)) (failR 9))) (failR 9))⟩
  | .gtr => ⟨fun a b H c => bi (nble a.tag 20) (f.run a b H c) (bi (nbeq a.tag 22) (bi (nbeq b.tag 3) (c H (mk1 23 1)) (failR 9)) (failR 9))⟩
  | _ => f
def intOpC (op : BinOp) (k : IntKind) : Box (AV → AV → Hp → Kont → RL) := om (intC op (kCode k)) badB2 fun f => bi (nbeq (kCode k) 3) (signC op f) f
def plainC (op : BinOp) (t : TypeId) : Box (AV → AV → Hp → Kont → RL) := match (tyB P t).run with
  | some (.int k) => intOpC op k
  | some .string => strOpC op
  | some .bool => boolOpC op
  | some (.pointer _) => nilOpC op 0 10
  | some (.slice _) => orY2 (nilOpC op 1 11) (match op with | .eql => nilEqY true | .neq => nilEqY false | _ => badB2)
  | some (.map _ _) => nilOpC op 2 12
  | some (.func _ _ _) => nilOpC op 3 13
  | some (.struct _) => aggOpC P op t
  | _ => badB2
def shOpC (left : Bool) (t ty : TypeId) : Box (AV → AV → Hp → Kont → RL) := match (tyB P t).run, (tyB P ty).run with
  | some (.int k), some (.int d) => shC left (kCode k) (kCode d)
  | _, _ => badB2
def binC (op : BinOp) (t : TypeId) (ty : TypeId) : Box (AV → AV → Hp → Kont → RL) := match op with
  | .shl => shOpC P true t ty
  | .shr => shOpC P false t ty
  | op => plainC P op t
def unC (op : UnOp) (t : TypeId) : Box (AV → Hp → Kont → RL) := match op, (tyB P t).run with
  | .not, _ => ⟨fun v H c => bi (nbeq v.tag 8) (c H (mk1 8 (Nat.sub 1 v.p))) (failR 10)⟩
  | .neg, some (.int k) => ⟨fun v H c => bi (nbeq v.tag (kCode k)) (c H (mk1 (kCode k) (negN (kCode k) v.p))) (failR 10)⟩
  | .xor, some (.int k) => ⟨fun v H c => bi (nbeq v.tag (kCode k)) (c H (mk1 (kCode k) (Nat.sub (Nat.pred (kMod (kCode k))) v.p))) (failR 10)⟩
  | _, _ => ⟨fun _ _ _ => failR 10⟩
def cnvN (a b n : Nat) : Nat := gt (fun n => bi (isNeg a n) (Nat.mod (Nat.add n (Nat.sub (Nat.mul (kMod b) (kMod a)) (kMod a))) (kMod b)) (Nat.mod n (kMod b))) n
def strOf (l : List AV) : Option Nat := List.rec (motive := fun _ => Nat → Option Nat) (fun n => some n) (fun v _ ih n => bi (nbeq v.tag 4) (ih (Nat.add (Nat.mul n 256) v.p)) none) l 0
def b2sC : Box (AV → Hp → Kont → RL) := ⟨fun v H c => bi (isNil v 1) (c H ⟨9, 0, 0, 0, 0, []⟩)
  (bi (nbeq v.tag 11) (bi (nbeq (hget H v.p).kind 1) (om (takeL (dropL (hget H v.p).cs v.q) v.r) (failR 11) fun l => om (strOf l) (failR 11) fun n => c H ⟨9, n, v.r, 0, 0, []⟩) (failR 11)) (failR 11))⟩
def isU8 (e : TypeId) : Bool := match (tyB P e).run with | some (.int .u8) => true | _ => false
def convC (a b : TypeId) : Box (AV → Hp → Kont → RL) := match (tyB P a).run, (tyB P b).run with
  | some (.int ka), some (.int kb) => ⟨fun v H c => bi (nbeq v.tag (kCode ka)) (c H (mk1 (kCode kb) (cnvN (kCode ka) (kCode kb) v.p))) (failR 11)⟩
  | some .string, some .string => ⟨fun v H c => bi (nbeq v.tag 9) (c H v) (failR 11)⟩
  | some (.slice e), some .string => bi (isU8 P e) b2sC ⟨fun _ _ _ => failR 11⟩
  | _, _ => ⟨fun _ _ _ => failR 11⟩
/-- parts put into the cells: places and sizes, in the parts' order -/
def fillL (pl : List (Nat × Nat)) : List AV → List AV → Option (List AV) :=
  List.rec (motive := fun _ => List AV → List AV → Option (List AV)) (fun _ cs => some cs)
    (fun oz _ ih vs cs => List.rec (motive := fun _ => Option (List AV)) none
      (fun v vs _ => bi (cellsOk v) (bi (nbeq (lenL (cellsOf v)) oz.2) (om (putC oz.1 (cellsOf v) cs) none fun cs => ih vs cs) none) none) vs) pl
def placesOf (f : Nat → Option (Nat × Nat)) (l : List Nat) : Option (List (Nat × Nat)) := match l with
  | [] => some []
  | i :: l => om (f i) none fun x => om (placesOf f l) none fun r => some (x :: r)
def buildC (pl : List (Nat × Nat)) (z : List AV) : Box (List AV → Hp → Kont → RL) := ⟨fun vs H c => om (fillL pl vs z) (failR 4) fun cs => c H (aggV cs)⟩
def slV (b off len s : Nat) : AV := ⟨11, b, off, len, s, []⟩
def exS (c : Nat) : Nat := Nat.succ (Nat.mul 2 c)
def lbS (c : Nat) : Nat := Nat.mul 2 c
def isEx (s : Nat) : Bool := nbeq (Nat.land s 1) 1
def capS (s : Nat) : Nat := Nat.div s 2
def buildSliceC (pl : List (Nat × Nat)) (z : List AV) (len : Nat) : Box (List AV → Hp → Kont → RL) :=
  ⟨fun vs H c => om (fillL pl vs z) (failR 5) fun cs => newC H (cellsB cs 1) (fun b => slV b 0 len (exS len)) c⟩
def makeSliceC (z : List AV) : Box (AV → AV → Hp → Kont → RL) := ⟨fun l m H c => bi (nbeq l.tag 3) (bi (nbeq m.tag 3) (bi (nble l.p m.p) (bi (nble m.p 100000)
  (newC H (cellsB (repC m.p z) 1) (fun b => slV b 0 l.p (exS m.p)) c) (failR 12)) (failR 12)) (failR 12)) (failR 12)⟩
def ixOk (v : AV) (n : Nat) : Bool := bi (nble v.tag 7) (bi (nble v.p n) (nb (isNeg v.tag v.p)) false) false
/-- x[l:h] of a slice -/
def cutV (sz : Nat) (x : AV) (l h s : Nat) : AV := slV x.p (Nat.add x.q (Nat.mul l sz)) (Nat.sub h l) s
def cutC (sz : Nat) (hasHi : Bool) : Box (AV → AV → AV → Hp → Kont → RL) := ⟨fun x l h H c =>
  bi (nbeq x.tag 11)
    ((fun hi : AV => bi (ixOk hi (capS x.s)) (bi (ixOk l hi.p) (bi (bi (nbeq l.p 0) true (nble (Nat.succ l.p) (capS x.s)))
      (c H (cutV sz x l.p hi.p (bi (isEx x.s) (exS (Nat.sub (capS x.s) l.p)) (lbS (Nat.sub (capS x.s) l.p))))) (failR 13)) (failR 13)) (failR 13)) (bi hasHi h (mk1 3 x.r)))
 (bi (isNil x 1) (bi (ixOk l 0) (bi (ixOk (bi hasHi h (mk1 3 0)) 0) (c H x) (failR 13)) (failR 13)) (failR 13))⟩
def cut3C (sz : Nat) : Box (List AV → Hp → Kont → RL) := ⟨fun vs H c => (fun x l h m : AV => bi (nbeq x.tag 11)
 (bi (ixOk m (capS x.s)) (bi (ixOk h m.p) (bi (ixOk l h.p) (bi (bi (nbeq l.p 0) true (nble (Nat.succ l.p) m.p))
      (c H (cutV sz x l.p h.p (exS (Nat.sub m.p l.p)))) (failR 13)) (failR 13)) (failR 13)) (failR 13)) (failR 13)) (nthL vs 0) (nthL vs 1) (nthL vs 2) (nthL vs 3)⟩
def cutArrC (n sz : Nat) (hasHi : Bool) : Box (AV → AV → AV → Hp → Kont → RL) := ⟨fun x l h H c =>
  bi (nbeq x.tag 10) ((fun hi : AV => bi (ixOk hi n) (bi (ixOk l hi.p) (bi (bi (nbeq l.p 0) true (nble (Nat.succ l.p) n))
      (c H (cutV sz x l.p hi.p (exS (Nat.sub n l.p)))) (failR 13)) (failR 13)) (failR 13)) (bi hasHi h (mk1 3 n))) (failR 13)⟩
def cutStr (x : AV) (l h : Nat) : AV := ⟨9, Nat.mod (Nat.div x.p (Nat.pow 256 (Nat.sub x.q h))) (Nat.pow 256 (Nat.sub h l)), Nat.sub h l, 0, 0, []⟩
def cutStrC (hasHi : Bool) : Box (AV → AV → AV → Hp → Kont → RL) := ⟨fun x l h H c =>
  bi (nbeq x.tag 9) ((fun hi : AV => bi (ixOk hi x.q) (bi (ixOk l hi.p) (c H (cutStr x l.p hi.p)) (failR 13)) (failR 13)) (bi hasHi h (mk1 3 x.q))) (failR 13)⟩
def zeroO : Operand := .const (.int .i64 0)
def sliceOp (t : TypeId) (x : Operand) (lo hi mx : Option Operand) : OpC := match (tyB P t).run, mx with
  | some (.slice e), none => om (szB P e).run (badC 13) fun sz => bi (nbeq sz 0) (badC 13) (.c3 x (lo.getD zeroO) (hi.getD zeroO) (orY3 (cutC sz hi.isSome) (cutY sz hi.isSome)))
  | some (.slice e), some m => om (szB P e).run (badC 13) fun sz => om hi (badC 13) fun h => .cN [x, lo.getD zeroO, h, m] (orYN (cut3C sz) (cut3Y sz))
  | some .string, none => .c3 x (lo.getD zeroO) (hi.getD zeroO) (cutStrC hi.isSome)
  | some (.array n e), none => om (szB P e).run (badC 13) fun sz => .c3 x (lo.getD zeroO) (hi.getD zeroO) (cutArrC n sz hi.isSome)
  | _, _ => badC 13
def fieldAddrC (off : Nat) : Box (AV → Hp → Kont → RL) := ⟨fun v H c => bi (nbeq v.tag 10) (c H (ptrV v.p (Nat.add v.q off))) (failR 14)⟩
/-- the value of a type out of cells -/
def partK (agg : Bool) (off sz : Nat) (cs : List AV) (H : Hp) (c : Kont) (n : Nat) : RL := bi agg (om (takeL (dropL cs off) sz) (failR n) fun l => c H (aggV l)) (knownK (nthL cs off) H c n)
def fieldC (agg : Bool) (off sz : Nat) : Box (AV → Hp → Kont → RL) := ⟨fun v H c => bi (nbeq v.tag 15) (partK agg off sz v.cs H c 15) (failR 15)⟩
def ixSlC (sz : Nat) : Box (AV → AV → Hp → Kont → RL) := ⟨fun x i H c => bi (nbeq x.tag 11) (bi (ixOk i (Nat.pred x.r)) (bi (nbeq x.r 0) (failR 16) (c H (ptrV x.p (Nat.add x.q (Nat.mul i.p sz))))) (failR 16)) (failR 16)⟩
def ixArrC (n sz : Nat) : Box (AV → AV → Hp → Kont → RL) := ⟨fun x i H c => bi (nbeq x.tag 10) (bi (ixOk i (Nat.pred n)) (bi (nbeq n 0) (failR 16) (c H (ptrV x.p (Nat.add x.q (Nat.mul i.p sz))))) (failR 16)) (failR 16)⟩
def ixAggC (agg : Bool) (n sz : Nat) : Box (AV → AV → Hp → Kont → RL) := ⟨fun x i H c => bi (nbeq x.tag 15) (bi (ixOk i (Nat.pred n)) (bi (nbeq n 0) (failR 17) (partK agg (Nat.mul i.p sz) sz x.cs H c 17)) (failR 17)) (failR 17)⟩
def strAt (x : AV) (i : Nat) : Nat := gt2 (fun p q => gt (fun i => Nat.mod (Nat.div p (Nat.pow 256 (Nat.sub (Nat.pred q) i))) 256) i) x.p x.q
def ixStrC : Box (AV → AV → Hp → Kont → RL) := ⟨fun x i H c => bi (nbeq x.tag 9) (bi (ixOk i (Nat.pred x.q)) (bi (nbeq x.q 0) (failR 17) (c H (mk1 4 (strAt x i.p)))) (failR 17)) (failR 17)⟩

/-! maps: keys are whole numbers or strings; an entry is [key, value], p its number -/
/-- a key of the kind kt: below 32 a value's tag; from 32 on an array of whole numbers: 32 + 8 * how many + their kind -/
def keyA (kt : Nat) (k : AV) : Bool := bi (nble 32 kt) (bi (nbeq k.tag 15) (bi (nbeq (lenL k.cs) (Nat.div (Nat.sub kt 32) 8)) (allL (fun c => nbeq c.tag (Nat.mod kt 8)) k.cs) false) false) (nbeq k.tag kt)
def sameL (x : List AV) : List AV → Bool := List.rec (motive := fun _ => List AV → Bool) (fun y => List.rec (motive := fun _ => Bool) true (fun _ _ _ => false) y) (fun a _ ih y => List.rec (motive := fun _ => Bool) false (fun b y _ => bi (nbeq a.p b.p) (ih y) false) y) x
def sameK (kt : Nat) (a b : AV) : Bool := bi (nble 32 kt) (sameL a.cs b.cs) (bi (nbeq a.p b.p) (nbeq a.q b.q) false)
def findE (kt : Nat) (k : AV) (es : List AV) : Option AV := List.rec (motive := fun _ => Option AV) none (fun e _ ih => bi (sameK kt (nthL e.cs 0) k) (some (nthL e.cs 1)) ih) es
def entV (b : Nat) (k v : AV) : AV := ⟨16, b, 0, 0, 0, [k, v]⟩
def updE (kt : Nat) (k v : AV) (es : List AV) : List AV := List.rec (motive := fun _ => List AV) [] (fun e es ih => bi (sameK kt (nthL e.cs 0) k) (entV e.p k v :: es) (e :: ih)) es
def delE (kt : Nat) (k : AV) (es : List AV) : List AV := List.rec (motive := fun _ => List AV) [] (fun e es ih => bi (sameK kt (nthL e.cs 0) k) es (e :: ih)) es
def keyTag (t : TypeId) : Option Nat := match (tyB P t).run with
  | some (.int k) => some (kCode k)
  | some .string => some 9
  | some (.array n e) => (match (tyB P e).run, (szB P e).run with
    | some (.int k), some 1 => some (Nat.add 32 (Nat.add (Nat.mul 8 n) (kCode k)))
    | _, _ => none)
  | _ => none
def lookV (ok : Bool) (o : Option AV) (z : AV) : AV := om o (bi ok (tupV [z, bV false]) z) fun v => bi ok (tupV [v, bV true]) v
def lookC (kt : Nat) (z : AV) (ok : Bool) : Box (AV → AV → Hp → Kont → RL) := ⟨fun m k H c =>
  bi (nbeq m.tag 12) (bi (nbeq (hget H m.p).kind 2) (bi (nbeq (hget H m.p).t kt) (bi (keyA kt k) (c H (lookV ok (findE kt k (hget H m.p).cs) z)) (failR 18)) (failR 18)) (failR 18))
 (bi (isNil m 2) (bi (keyA kt k) (c H (lookV ok none z)) (failR 18)) (failR 18))⟩
def mapSet (B : AB) (k v : AV) : AB := om (findE B.t k B.cs) ⟨2, B.t, Nat.succ B.e, appL B.cs [entV B.e k v]⟩ fun _ => ⟨2, B.t, B.e, updE B.t k v B.cs⟩
def mapUpdC (kt : Nat) : Box (AV → AV → AV → Hp → Kont → RL) := ⟨fun m k v H c =>
  bi (nbeq m.tag 12) (bi (nbeq (hget H m.p).kind 2) (bi (nbeq (hget H m.p).t kt) (bi (keyA kt k) (setC H m.p (mapSet (hget H m.p) k v) udV c) (failR 19)) (failR 19)) (failR 19)) (failR 19)⟩
def delC (kt : Nat) : Box (AV → AV → Hp → Kont → RL) := ⟨fun m k H c =>
  bi (nbeq m.tag 12) (bi (nbeq (hget H m.p).kind 2) (bi (nbeq (hget H m.p).t kt) (bi (keyA kt k) (setC H m.p ⟨2, (hget H m.p).t, (hget H m.p).e, delE kt k (hget H m.p).cs⟩ (tupV []) c) (failR 33)) (failR 33)) (failR 33)) (failR 33)⟩
def findN (kt : Nat) (k : AV) (es : List AV) : Nat := List.rec (motive := fun _ => Nat) 0 (fun e _ ih => bi (sameK kt (nthL e.cs 0) k) e.p ih) es
def mapEntC (kt : Nat) (z : AV) : Box (AV → AV → Hp → Kont → RL) := ⟨fun m k H c =>
  bi (nbeq m.tag 12) (bi (nbeq (hget H m.p).kind 2) (bi (nbeq (hget H m.p).t kt) (bi (keyA kt k) (bi (nble (hget H m.p).e 1000000)
    (om (findE kt k (hget H m.p).cs) (setC H m.p (mapSet (hget H m.p) k z) (tupV [z, mk1 3 (hget H m.p).e]) c)
      fun v => setC H m.p (mapSet (hget H m.p) k v) (tupV [v, mk1 3 (findN kt k (hget H m.p).cs)]) c) (failR 191)) (failR 191)) (failR 191)) (failR 191)) (failR 191)⟩
def setN (n : Nat) (v : AV) (es : List AV) : Option (List AV) := List.rec (motive := fun _ => Option (List AV)) none (fun e t ih => bi (nbeq e.p n) (some (entV e.p (nthL e.cs 0) v :: t)) (om ih none fun l => some (e :: l))) es
def entStC : Box (AV → AV → AV → Hp → Kont → RL) := ⟨fun m s v H c =>
  bi (nbeq m.tag 12) (bi (nbeq (hget H m.p).kind 2) (bi (nbeq s.tag 3) (bi (nble s.p 1000000) (om (setN s.p v (hget H m.p).cs) (failR 192) fun es => setC H m.p ⟨2, (hget H m.p).t, (hget H m.p).e, es⟩ udV c) (failR 192)) (failR 192)) (failR 192)) (failR 192)⟩
def extractC (i : Nat) : Box (AV → Hp → Kont → RL) := ⟨fun v H c => bi (nbeq v.tag 16) (bi (nble (Nat.succ i) (lenL v.cs)) (c H (nthL v.cs i)) (failR 27)) (failR 27)⟩
/-- a walk over a map: kind 3, e the map's clock; cs: the map, the numbers of the entries that have been seen -/
def walkB (m : AV) (e : Nat) (seen : List AV) : AB := ⟨3, 0, e, [m, tupV seen]⟩
def rangeC : Box (AV → Hp → Kont → RL) := ⟨fun m H c => bi (nbeq m.tag 12) (bi (nbeq (hget H m.p).kind 2) (newC H (walkB m (hget H m.p).e []) ptr0 c) (failR 28))
  (bi (isNil m 2) (newC H (walkB m 0 []) ptr0 c) (failR 28))⟩
def memN (n : Nat) (l : List AV) : Bool := List.rec (motive := fun _ => Bool) false (fun a _ ih => bi (nbeq a.p n) true ih) l
def leftE (seen es : List AV) : List AV := List.rec (motive := fun _ => List AV) [] (fun e _ ih => bi (memN e.p seen) ih (e :: ih)) es
def stepsK (it : Nat) (B : AB) (H : Hp) (c : Kont) (l : List AV) : RL :=
  fmL l fun e => setC H it (walkB (nthL B.cs 0) B.e (appL (nthL B.cs 1).cs [mk1 3 e.p])) (tupV [bV true, nthL e.cs 0, nthL e.cs 1]) c
def nextC : Box (AV → Hp → Kont → RL) := ⟨fun v H c => bi (nbeq v.tag 10) (bi (nbeq v.q 0) ((fun B : AB => bi (nbeq B.kind 3)
  (bi (nbeq (nthL B.cs 0).tag 17) (c H (tupV [bV false])) (bi (nbeq (nthL B.cs 0).tag 12) ((fun M : AB => bi (nbeq M.kind 2) (bi (nbeq M.e B.e)
    ((fun l : List AV => List.rec (motive := fun _ => RL) (c H (tupV [bV false])) (fun _ _ _ => stepsK v.p B H c l) l) (leftE (nthL B.cs 1).cs M.cs)) (failR 29)) (failR 29)) (hget H (nthL B.cs 0).p)) (failR 29))) (failR 29)) (hget H v.p)) (failR 29)) (failR 29)⟩
def lastN (l : List AV) : Nat := List.rec (motive := fun _ => Nat → Nat) (fun n => n) (fun a _ ih _ => ih a.p) l 0
def findB (n : Nat) (es : List AV) : Option (List AV) := List.rec (motive := fun _ => Option (List AV)) none (fun e _ ih => bi (nbeq e.p n) (some e.cs) ih) es
def entryC : Box (AV → Hp → Kont → RL) := ⟨fun v H c => bi (nbeq v.tag 10) (bi (nbeq v.q 0) ((fun B : AB => bi (nbeq B.kind 3)
  (bi (nbeq (nthL B.cs 0).tag 12) ((fun M : AB => bi (nbeq M.kind 2) (bi (nbeq M.e B.e)
    (List.rec (motive := fun _ => RL) (failR 38) (fun _ _ _ => om (findB (lastN (nthL B.cs 1).cs) M.cs) (failR 38) fun l => c H (tupV l)) (nthL B.cs 1).cs) (failR 38)) (failR 38)) (hget H (nthL B.cs 0).p)) (failR 38)) (failR 38)) (hget H v.p)) (failR 38)) (failR 38)⟩

/-! append -/
def strL (p q : Nat) : List AV := Nat.rec (motive := fun _ => List AV) [] (fun i ih => mk1 4 (Nat.mod (Nat.div p (Nat.pow 256 i)) 256) :: ih) q
/-- the new cells and how many elements these are -/
def newsOf (sz : Nat) (u8 : Bool) (H : Hp) (y : AV) : Option (Nat × List AV) :=
  bi (nbeq y.tag 11) (bi (nbeq (hget H y.p).kind 1) (om (takeL (dropL (hget H y.p).cs y.q) (Nat.mul y.r sz)) none fun l => some (y.r, l)) none)
 (bi (nbeq y.tag 17) (bi (nbeq y.p 1) (some (0, [])) none) (bi (nbeq y.tag 9) (bi u8 (some (y.q, strL y.p y.q)) none) none))
def appNew (sz : Nat) (H : Hp) (cs : List AV) (n : Nat) (c : Kont) : RL := newC H ⟨1, sz, 0, cs⟩ (fun b => slV b 0 n (lbS n)) c
/-- no room is known behind the slice: it is the block's tip, and the block is written to by nobody else from here on -/
def appTip (sz : Nat) (x : AV) (H : Hp) (cs : List AV) (n : Nat) (c : Kont) : RL :=
  bi (nbeq x.q 0) (bi (nbeq (Nat.mul x.r sz) (lenL (hget H x.p).cs)) (bi (nbeq (hget H x.p).e 0) (bi (nbeq (hget H x.p).t sz) (setC H x.p noB udV fun H _ => appNew sz H cs n c) (failR 24)) (failR 24)) (failR 24)) (failR 24)
def appSl (sz : Nat) (x : AV) (n : Nat) (new : List AV) (H : Hp) (c : Kont) : RL :=
  bi (nbeq (hget H x.p).kind 1)
 (bi (nble n (capS x.s))
      (om (putC (Nat.add x.q (Nat.mul x.r sz)) new (hget H x.p).cs) (failR 22) fun cs => setC H x.p ⟨1, (hget H x.p).t, (hget H x.p).e, cs⟩ (slV x.p x.q n x.s) c)
      (om (takeL (dropL (hget H x.p).cs x.q) (Nat.mul x.r sz)) (failR 23) fun old => bi (isEx x.s) (appNew sz H (appL old new) n c) (appTip sz x H (appL old new) n c)))
 (failR 25)
def appendC (sz : Nat) (u8 : Bool) : Box (AV → AV → Hp → Kont → RL) := ⟨fun x y H c => om (newsOf sz u8 H y) (failR 21) fun nw =>
  bi (nbeq x.tag 11) (bi (nble (Nat.add x.r nw.1) 100000) (appSl sz x (Nat.add x.r nw.1) nw.2 H c) (failR 26))
 (bi (isNil x 1) (bi (nbeq nw.1 0) (c H x) (bi (nble nw.1 100000) (appNew sz H nw.2 nw.1 c) (failR 26))) (failR 26))⟩
def appendOp (tys : Array TypeId) (x y : Operand) : OpC := match tys[0]?, tys[1]? with
  | some t, some ty => (match (tyB P t).run, (tyB P ty).run with
    | some (.slice _), some (.int _) => badC 20
    | some (.slice e), some _ => om (szB P e).run (badC 20) fun sz => om (btB P e).run (badC 20) fun bt => om (zeB P e).run (badC 20) fun z =>
      bi (bi (nble bt 1000000) (bi (nble 1 bt) (nbeq (lenL (cellsOf z)) sz) false) false) (.c2 x y ⟨fun a b H c => bi (bi (nble 24 a.tag) true (nble 24 b.tag)) ((appendY P e sz bt).run a b H c) ((appendC sz (bi (isU8 P e) (nbeq sz 1) false)).run a b H c)⟩) (badC 20)
    | _, _ => badC 20)
  | _, _ => badC 20
def lenK (n : Nat) (H : Hp) (c : Kont) : RL := bi (nble n 4611686018427387904) (c H (mk1 3 n)) (failR 31)
def lenC (t : TypeId) : Box (AV → Hp → Kont → RL) := match (tyB P t).run with
  | some .string => ⟨fun v H c => bi (nbeq v.tag 9) (lenK v.q H c) (failR 31)⟩
  | some (.slice _) => orY1 ⟨fun v H c => bi (nbeq v.tag 11) (lenK v.r H c) (bi (isNil v 1) (lenK 0 H c) (bi (nbeq v.tag 23) (bi (nbeq v.p (Nat.add 32 t)) (c H (mk1 22 0)) (failR 31)) (failR 31)))⟩ lenY
  | some (.map _ _) => ⟨fun v H c => bi (nbeq v.tag 12) (bi (nbeq (hget H v.p).kind 2) (lenK (lenL (hget H v.p).cs) H c) (failR 31)) (bi (isNil v 2) (lenK 0 H c) (failR 31))⟩
  | some (.array n _) => ⟨fun _ H c => lenK n H c⟩
  | some (.pointer p) => (match (tyB P p).run with | some (.array n _) => ⟨fun _ H c => lenK n H c⟩ | _ => ⟨fun _ _ _ => failR 31⟩)
  | _ => ⟨fun _ _ _ => failR 31⟩
def minmaxC (isMax : Bool) (c : Nat) : Box (AV → AV → Hp → Kont → RL) := int2 c ⟨fun a b => mk1 c (bi (nble (biased c a) (biased c b)) (bi isMax b a) (bi isMax a b))⟩
def min3C (k : Nat) : Box (AV → AV → AV → Hp → Kont → RL) := ⟨fun a b d H c => (minmaxC false k).run a b H fun H v => (minmaxC false k).run v d H c⟩
def builtinOp (b : Builtin) (args : List Operand) (tys : Array TypeId) (ty : TypeId) : OpC := match b, args with
  | .append, [x, y] => appendOp P tys x y
  | .len, [x] => (match tys[0]? with | some t => .c1 x (lenC P t) | none => badC 31)
  | .min, [x, y] => (match (tyB P ty).run with | some (.int k) => .c2 x y (minmaxC false (kCode k)) | _ => badC 32)
  | .max, [x, y] => (match (tyB P ty).run with | some (.int k) => .c2 x y (minmaxC true (kCode k)) | _ => badC 32)
  | .delete, [m, x] => (match tys[0]? with | some t => (match (tyB P t).run with | some (.map kt _) => om (keyTag P kt) (badC 33) fun n => .c2 m x (delC n) | _ => badC 33) | none => badC 33)
  | .min, [x, y, z] => (match (tyB P ty).run with | some (.int k) => .c3 x y z (min3C (kCode k)) | _ => badC 32)
  | _, _ => badC 34
def makeFuncC (f n : Nat) : Box (List AV → Hp → Kont → RL) := ⟨fun vs H c => c H ⟨13, f, n, 0, 0, vs⟩⟩

def opOf (o : Oper) : OpC := match o.op with
  | .move x | .assign x => .c1 x moveC
  | .pick a b d => .c3 a b d pickC
  | .alloc t => om (zeB P t).run (badC 3) fun z => .c0 (allocC z)
  | .box _ x => .c1 x boxC
  | .build t parts => om (zeB P t).run (badC 4) fun z => (match (tyB P t).run with
    | some (.struct fs) => om (fs.toList.mapM fun f => (P.info? f.type).map fun i => (f.offset, i.size)) (badC 4) fun pls => om (placesOf (fun i => pls.toArray[i]?) (parts.toList.map (·.1))) (badC 4) fun pl => .cN (parts.toList.map (·.2)) (buildC pl (cellsOf z))
    | some (.array _ e) => om (szB P e).run (badC 4) fun sz => om (placesOf (fun i => some (i * sz, sz)) (parts.toList.map (·.1))) (badC 4) fun pl => .cN (parts.toList.map (·.2)) (buildC pl (cellsOf z))
    | _ => badC 4)
  | .buildSlice t len parts => (match (tyB P t).run with
    | some (.slice e) => om (szB P e).run (badC 5) fun sz => om (zeB P e).run (badC 5) fun z => om (placesOf (fun i => some (i * sz, sz)) (parts.toList.map (·.1))) (badC 5) fun pl => bi (bi (nble (Nat.mul len sz) 100000) (nbeq (lenL (cellsOf z)) sz) false)
        (.cN (parts.toList.map (·.2)) (buildSliceC pl (repC len (cellsOf z)) len)) (badC 5)
    | _ => badC 5)
  | .load t a => om (tyB P t).run (badC 6) fun _ => om (szB P t).run (badC 6) fun sz => .c1 a (orY1 (bi (isAggT P t) (loadA sz) load1) (loadY (isAggT P t) sz (ksB P t).run))
  | .store t a x => om (szB P t).run (badC 7) fun sz => .c2 a x (orY2 (storeC sz) (storeY (isAggT P t) sz (ksB P t).run))
  | .nilCheck x => .c1 x (orY1 nilC nilY)
  | .binOp op t x y ty => .c2 x y (binC P op t ty)
  | .unOp op t x => .c1 x (unC P op t)
  | .convert a b x => .c1 x (convC P a b)
  | .makeFunc fn first cap => (match fn with | .func f => .cN (first.toList ++ cap.toList) (makeFuncC f (lenL first.toList)) | _ => badC 36)
  | .makeMap t r => (match r, (tyB P t).run with | none, some (.map kt _) => om (keyTag P kt) (badC 37) fun n => .c0 ⟨fun H c => newC H ⟨2, n, 0, []⟩ (mk1 12) c⟩ | _, _ => badC 37)
  | .makeSlice t l m => (match (tyB P t).run with
    | some (.slice e) => om (szB P e).run (badC 12) fun sz => om (btB P e).run (badC 12) fun bt => om (zeB P e).run (badC 12) fun z => bi (bi (nble bt 1000000) (nbeq (lenL (cellsOf z)) sz) false) (.c2 l m (makeSliceC (cellsOf z))) (badC 12)
    | _ => badC 12)
  | .slice t x lo hi mx => sliceOp P t x lo hi mx
  | .fieldAddr t x f => (match (tyB P t).run with
    | some (.struct fs) => om (fs[f]?) (badC 14) fun fd => om (szB P fd.type).run (badC 14) fun sz => bi (nbeq sz 0) (badC 14) (.c1 x (orY1 (fieldAddrC fd.offset) (fieldAddrY fd.offset)))
    | _ => badC 14)
  | .field t x f => (match (tyB P t).run with
    | some (.struct fs) => om (fs[f]?) (badC 15) fun fd => om (szB P fd.type).run (badC 15) fun sz => om (tyB P fd.type).run (badC 15) fun _ => .c1 x (fieldC (isAggT P fd.type) fd.offset sz)
    | _ => badC 15)
  | .indexAddr t x i => (match (tyB P t).run with
    | some (.slice e) => om (szB P e).run (badC 16) fun sz => .c2 x i (orY2 (ixSlC sz) (ixSlY sz))
    | some (.array n e) => om (szB P e).run (badC 16) fun sz => .c2 x i (ixArrC n sz)
    | _ => badC 16)
  | .index t x i => (match (tyB P t).run with
    | some .string => .c2 x i ixStrC
    | some (.array n e) => om (szB P e).run (badC 17) fun sz => om (tyB P e).run (badC 17) fun _ => .c2 x i (ixAggC (isAggT P e) n sz)
    | _ => badC 17)
  | .lookup t m k ok => (match (tyB P t).run with
    | some (.map kt e) => om (keyTag P kt) (badC 18) fun n => om (zeB P e).run (badC 18) fun z => .c2 m k (lookC n z ok)
    | _ => badC 18)
  | .mapUpdate t m k x | .insert t m k x => (match (tyB P t).run with
    | some (.map kt _) => om (keyTag P kt) (badC 19) fun n => .c3 m k x (mapUpdC n)
    | _ => badC 19)
  | .mapEntry t m k => (match (tyB P t).run with
    | some (.map kt e) => om (keyTag P kt) (badC 191) fun n => om (zeB P e).run (badC 191) fun z => .c2 m k (mapEntC n z)
    | _ => badC 191)
  | .entryStore _ m s x => .c3 m s x entStC
  | .extract x i => .c1 x (extractC i)
  | .range t x => (match (tyB P t).run with | some (.map _ _) => .c1 x rangeC | _ => badC 28)
  | .next it str => bi str (badC 29) (.c1 it nextC)
  | .entry it => .c1 it entryC
  | .call c => (match c.callee with
    | .value f => .call f c.args.toList
    | .builtin b => builtinOp P b c.args.toList c.argTypes o.type
    | _ => badC 344)
  | _ => badC 35

/-! ### operations, regions, code. N: how many temporaries the frame has -/
def getO (o : Operand) : Box (Fr → AV) := match o with
  | .tmp t => getB t
  | .const v => ⟨fun _ => avOf v⟩
  | .global g => bi (nble (Nat.succ g) P.globals.size) ⟨fun _ => ptrV g 0⟩ ⟨fun _ => unkV⟩
  | .func f => ⟨fun _ => mk1 13 f⟩
def getsO (l : List Operand) : Box (Fr → List AV) := match l with
  | [] => ⟨fun _ => []⟩
  | o :: l => ⟨fun T => (getO P o).run T :: (getsO l).run T⟩
/-- a value is put down, and on -/
def putK (N : Nat) (d : Option Nat) (k : BR) : Box (Rec → Fr → Kont) := match d with
  | some d => bi (nble (Nat.succ d) N) ⟨fun r T H v => k.run r ((setB d).run T v) H⟩ ⟨fun _ _ _ _ => failR 41⟩
  | none => ⟨fun r T H _ => k.run r T H⟩
def runC (x : OpC) (kv : Box (Rec → Fr → Kont)) : BR := match x with
  | .c0 f => ⟨fun r T H => f.run H (kv.run r T)⟩
  | .c1 x f => ⟨fun r T H => f.run ((getO P x).run T) H (kv.run r T)⟩
  | .c2 x y f => ⟨fun r T H => f.run ((getO P x).run T) ((getO P y).run T) H (kv.run r T)⟩
  | .c3 x y z f => ⟨fun r T H => f.run ((getO P x).run T) ((getO P y).run T) ((getO P z).run T) H (kv.run r T)⟩
  | .cN xs f => ⟨fun r T H => f.run ((getsO P xs).run T) H (kv.run r T)⟩
  | .call x xs => ⟨fun r T H => fmL (r ((getO P x).run T) ((getsO P xs).run T) H) fun c => bi (nbeq c.ok 1) (kv.run r T c.H c.v) (failR c.why)⟩
def opK (N : Nat) (o : Oper) (k : BR) : BR := runC P (opOf P o) (putK N o.dst k)
/-- the operation, if its guard lets it -/
def opG (N : Nat) (all : Array Oper) (o : Oper) (k : BR) : BR := match o.guard with
  | none => opK P N o k
  | some (j, want) => match (all[j]?).bind (·.dst) with
    | some d => bi (nble (Nat.succ d) N) ⟨fun r T H => bi (nbeq ((getB d).run T).tag 8) (bi (nbeq ((getB d).run T).p (bi want 1 0)) ((opK P N o k).run r T H) ((putK N o.dst k).run r T H udV)) (bi (nbeq ((getB d).run T).tag 19) ((putK N o.dst k).run r T H udV) (failR 40))⟩ ⟨fun _ _ _ => failR 40⟩
    | none => ⟨fun _ _ _ => failR 40⟩
def opsK (N : Nat) (all : Array Oper) (l : List Oper) (k : BR) : BR := match l with
  | [] => k
  | o :: l => opG P N all o (opsK N all l k)

def eqA (n : Nat) : AV → AV → Bool := Nat.rec (motive := fun _ => AV → AV → Bool) (fun _ _ => false)
  (fun _ ih a b => bi (nbeq a.tag b.tag) (bi (nbeq a.p b.p) (bi (nbeq a.q b.q) (bi (nbeq a.r b.r) (bi (nbeq a.s b.s)
    (List.rec (motive := fun _ => List AV → Bool) (fun l => List.rec (motive := fun _ => Bool) true (fun _ _ _ => false) l) (fun x _ ihl l => List.rec (motive := fun _ => Bool) false (fun y l _ => bi (ih x y) (ihl l) false) l) a.cs b.cs) false) false) false) false) false) n
/-! ### a region whose order is drawn: carried out in one order; after whatever may change the memory, all that could as well be carried out later is carried out again, and must give the same -/
def runD (x : OpC) : Box (Rec → Fr → Hp → Kont → RL) := match x with
  | .c0 f => ⟨fun _ _ H c => f.run H c⟩
  | .c1 x f => ⟨fun _ T H c => f.run ((getO P x).run T) H c⟩
  | .c2 x y f => ⟨fun _ T H c => f.run ((getO P x).run T) ((getO P y).run T) H c⟩
  | .c3 x y z f => ⟨fun _ T H c => f.run ((getO P x).run T) ((getO P y).run T) ((getO P z).run T) H c⟩
  | .cN xs f => ⟨fun _ T H c => f.run ((getsO P xs).run T) H c⟩
  | .call x xs => ⟨fun r T H c => fmL (r ((getO P x).run T) ((getsO P xs).run T) H) fun q => bi (nbeq q.ok 1) (c q.H q.v) (failR q.why)⟩
def tmpsO (l : List Operand) : List Nat := match l with
  | [] => []
  | .tmp t :: l => t :: tmpsO l
  | _ :: l => tmpsO l
def opsC (x : OpC) : List Operand := match x with
  | .c0 _ => []
  | .c1 x _ => [x]
  | .c2 x y _ => [x, y]
  | .c3 x y z _ => [x, y, z]
  | .cN xs _ => xs
  | .call x xs => x :: xs
/-- 0: it only looks; 1: it makes a block; 2: it may do more -/
def clsOf (o : Oper) : Nat := match o.op with
  | .move _ | .pick .. | .load .. | .nilCheck _ | .binOp .. | .unOp .. | .convert .. | .makeFunc .. | .slice .. | .fieldAddr .. | .field .. | .indexAddr .. | .index .. | .lookup .. | .extract .. | .build .. => 0
  | .alloc _ | .buildSlice .. | .makeSlice .. => 1
  | .call c => (match c.callee with | .builtin .len | .builtin .min | .builtin .max => 0 | _ => 2)
  | _ => 2
structure DI where
  i : Nat
  cls : Nat
  d : Nat
  rd : List Nat
  dm : Nat
  ok : Bool
  x : Box (Rec → Fr → Hp → Kont → RL)
  g : List Nat
def dmOf (l : List Edge) : Nat := match l with
  | [] => 0
  | e :: l => bi (Region.binds .any e) (Nat.lor (Nat.pow 2 e.on) (dmOf l)) (dmOf l)
def dOf (d : Option Nat) : Nat := match d with | some d => d | none => 512
def gdOf (all : Array Oper) (o : Oper) : List Nat := match o.guard with
  | none => []
  | some (j, _) => match (all[j]?).bind (·.dst) with | some d => [d] | none => []
def runG (all : Array Oper) (o : Oper) : Box (Rec → Fr → Hp → Kont → RL) := match o.guard with
  | none => runD P (opOf P o)
  | some (j, want) => match (all[j]?).bind (·.dst) with
    | some d => ⟨fun r T H c => bi (nbeq ((getB d).run T).tag 8) (bi (nbeq ((getB d).run T).p (bi want 1 0)) ((runD P (opOf P o)).run r T H c) (c H udV)) (bi (nbeq ((getB d).run T).tag 19) (c H udV) (failR 40))⟩
    | none => ⟨fun _ _ _ _ => failR 40⟩
def okOf (N : Nat) (all : Array Oper) (o : Oper) : Bool :=
  bi (allL (fun d => nble (Nat.succ d) N) (gdOf all o)) (match o.dst with | some d => bi (nble (Nat.succ d) N) (nble (Nat.succ d) 511) false | none => nbeq (clsOf o) 2) false
def diOf (N : Nat) (all : Array Oper) (i : Nat) (o : Oper) : DI := ⟨i, clsOf o, dOf o.dst, appL (gdOf all o) (tmpsO (opsC (opOf P o))), dmOf o.after.toList, okOf N all o, runG P all o, gdOf all o⟩
def disOf (N : Nat) (all : Array Oper) (i : Nat) (l : List Oper) : List DI := match l with
  | [] => []
  | o :: l => diOf P N all i o :: disOf N all (Nat.succ i) l
def testB (m i : Nat) : Bool := nbeq (Nat.land (Nat.shiftRight m i) 1) 1
def subB (a b : Nat) : Bool := nbeq (Nat.land a b) a
def pickD (c dn : Nat) (l : List DI) : Option DI := List.rec (motive := fun _ => Option DI) none (fun a _ ih => bi (nbeq a.cls c) (bi (testB dn a.i) ih (bi (subB a.dm dn) (some a) ih)) ih) l
def nextD (dn : Nat) (l : List DI) : Option DI := om (pickD 1 dn l) (om (pickD 0 dn l) (pickD 2 dn l) some) some
def schedD (fuel : Nat) (l : List DI) : Nat → List DI := Nat.rec (motive := fun _ => Nat → List DI) (fun _ => []) (fun _ ih dn => om (nextD dn l) [] fun a => a :: ih (Nat.lor dn (Nat.pow 2 a.i))) fuel
/-- in order, none twice; behind the last that may do more each one hangs on it, or on one behind it; in the end all of them -/
def topoB (full : Nat) (l : List DI) : Nat → Nat → Bool := List.rec (motive := fun _ => Nat → Nat → Bool) (fun dn _ => subB full dn)
  (fun a _ ih dn sn => bi (testB dn a.i) false (bi (subB a.dm dn) (bi (bi (nbeq sn 0) true (nb (nbeq (Nat.land a.dm sn) 0)))
    (ih (Nat.lor dn (Nat.pow 2 a.i)) (bi (nbeq a.cls 2) (Nat.pow 2 a.i) (bi (nbeq sn 0) 0 (Nat.lor sn (Nat.pow 2 a.i))))) false) false)) l
def memT (d : Nat) (l : List Nat) : Bool := List.rec (motive := fun _ => Bool) false (fun x _ ih => bi (nbeq x d) true ih) l
/-- what a puts down and b reads or puts down -/
def pairB (a b : DI) : Bool := bi (nbeq a.d 512) true
  (bi (bi (memT a.d b.rd) (bi (testB b.dm a.i) true (bi (nbeq a.cls 2) (bi (testB a.dm b.i) true (nbeq a.i b.i)) false)) true) (bi (nbeq a.i b.i) true (nb (nbeq a.d b.d))) false)
def okD (n : Nat) (l : List DI) : Bool := bi (topoB (Nat.pred (Nat.pow 2 n)) l 0 0) (bi (allL (fun a => bi a.ok (nble (Nat.succ a.i) n) false) l) (allL (fun a => allL (pairB a) l) l) false) false
/-- of those carried out already (the last one first) whatever only looks and hangs together with none of the numbers E -/
def chk (l : List DI) : Nat → List DI := List.rec (motive := fun _ => Nat → List DI) (fun _ => []) (fun b _ ih E => bi (testB E b.i) (ih (Nat.lor E b.dm)) (bi (nbeq b.cls 0) (b :: ih E) (ih E))) l
def recK (l : List DI) : Box (Rec → Fr → Hp → RL → RL) := match l with
  | [] => ⟨fun _ _ _ L => L⟩
  | a :: l => ⟨fun r T H L => a.x.run r T H fun _ v => bi (eqA 1000 v ((getB a.d).run T)) ((recK l).run r T H L) (failR 90)⟩
/-- what a guard is found to be is written down -/
def gateD (g : List Nat) (x : BR) : BR := match g with
  | [d] => ⟨fun r T H => bi (nbeq ((getB d).run T).tag 8)
 (bi (nbeq ((getB d).run T).p 1) (x.run r ((setB d).run T ⟨8, 1, ((getB d).run T).q, ((getB d).run T).r, ((getB d).run T).s, ((getB d).run T).cs⟩) H)
 (bi (nbeq ((getB d).run T).p 0) (x.run r ((setB d).run T ⟨8, 0, ((getB d).run T).q, ((getB d).run T).r, ((getB d).run T).s, ((getB d).run T).cs⟩) H) (failR 40)))
      (x.run r T H)⟩
  | _ => x
def dgo (k : BR) (done : List DI) (l : List DI) : BR := match l with
  | [] => k
  | a :: l => gateD a.g (bi (nbeq a.cls 0) ⟨fun r T H => a.x.run r T H fun H v => (dgo k (a :: done) l).run r ((setB a.d).run T v) H⟩
      ⟨fun r T H => a.x.run r T H fun H v => (recK (chk done (bi (nbeq a.cls 2) a.dm 0))).run r ((setB a.d).run T v) H ((dgo k (a :: done) l).run r ((setB a.d).run T v) H)⟩)
def drawK (N : Nat) (all : Array Oper) (k : BR) : BR :=
  bi (okD all.size (schedD all.size (disOf P N all 0 all.toList) 0)) (dgo k [] (schedD all.size (disOf P N all 0 all.toList) 0)) ⟨fun _ _ _ => failR 51⟩

def loopMax : Nat := 100000
def blkR (i : Nat) (k : BR) (r : Rec) (l : RL) : RL := fmL l fun x => bi (bi (nbeq x.tag 0) true (bi (nbeq x.tag 1) (nbeq x.i i) false)) (k.run r x.T x.H) [x]
def loopR (b : Run) (r : Rec) (n : Nat) : Fr → Hp → RL := Nat.rec (motive := fun _ => Fr → Hp → RL) (fun _ _ => failR 98) (fun _ ih T H => fmL (b r T H) fun x => bi (nbeq x.tag 0) (ih x.T x.H) [x]) n
def mapI (l : List Nat) : List AV := List.rec (motive := fun _ => List AV) [] (fun d _ ih => mk1 3 d :: ih) l
def mapP (l : List AV) : List Nat := List.rec (motive := fun _ => List Nat) [] (fun a _ ih => a.p :: ih) l
/-- where a loop over a function stands: the function, the way down to it (the last turn first) -/
def pathV (f : Nat) (rp : List Nat) : AV := ⟨0, f, 0, 0, 0, mapI rp⟩
def yldV (b : Nat) : AV := ⟨14, b, 0, 0, 0, []⟩
def endL (k : BR) (r : Rec) (T : Fr) (b : Nat) (H : Hp) : RL := (fun B : AB => bi (nbeq B.kind 5) (bi (nbeq B.t 1) (failR 61)
  (setC H b ⟨5, 3, B.e, B.cs⟩ udV fun H _ => bi (nbeq B.e 0) (k.run r T H) (bi (nbeq B.e 1) [⟨2, 0, T, H⟩] [⟨1, Nat.sub B.e 2, T, H⟩]))) (failR 61)) (hget H b)
def loopF (f : Nat) (rp : List Nat) (g : Operand) (k : BR) (r : Rec) (T : Fr) (H : Hp) : RL :=
  newC H ⟨5, 0, 0, [pathV f rp, encF (noMk T)]⟩ yldV fun H' _ => bi (nbeq ((getO P g).run T).tag 13) (fmL (r ((getO P g).run T) [yldV H.n] H') fun c => bi (nbeq c.ok 1) (endL k r T H.n c.H) (failR c.why)) (failR 62)
/-- inr: in a round of a loop over a function; f, rp: where the code stands -/
def comp (N : Nat) (inr : Bool) (f : Nat) (rp : List Nat) (c : Code) (k : BR) : BR := match c with
  | .skip => k
  | .label _ => k
  | .ret => ⟨fun _ T H => [⟨2, 0, T, H⟩]⟩
  | .exit i => ⟨fun _ T H => [⟨1, i, T, H⟩]⟩
  | .seq a b => comp N inr f (0 :: rp) a (comp N inr f (1 :: rp) b k)
  | .cond c a b => ⟨fun r T H => bi (nbeq ((getO P c).run T).tag 8) (bi (nbeq ((getO P c).run T).p 1) ((comp N inr f (0 :: rp) a k).run r T H) ((comp N inr f (1 :: rp) b k).run r T H))
 (bi (bi (nbeq ((getO P c).run T).tag 23) (nbeq ((getO P c).run T).p 1) false) (appL ((comp N inr f (0 :: rp) a k).run r T H) ((comp N inr f (1 :: rp) b k).run r T H)) (failR 50))⟩
  | .block i c => ⟨fun r T H => blkR i k r ((comp N inr f (0 :: rp) c normK).run r T H)⟩
  | .loop c => ⟨fun r T H => loopR (comp N inr f (0 :: rp) c normK).run r loopMax T H⟩
  | .region _ ops draw => bi draw (drawK P N ops k) (opsK P N ops ops.toList k)
  | .scope c => comp N inr f (0 :: rp) c k
  | .rangeFunc g _ _ _ => bi inr ⟨fun r T H => loopF P f rp g k r T H⟩ ⟨fun r T H => newC H ⟨4, 0, 0, []⟩ yldV fun H' _ => loopF P f rp g k r (addMark T H.n) H'⟩
  | _ => ⟨fun _ _ _ => failR 52⟩
/-- down one turn -/
def kidC (d : Nat) (c : Code) : Option Code := match c, d with
  | .seq a _, 0 => some a
  | .seq _ b, 1 => some b
  | .cond _ a _, 0 => some a
  | .cond _ _ b, 1 => some b
  | .block _ c, 0 => some c
  | .loop c, 0 => some c
  | .scope c, 0 => some c
  | .rangeFunc _ _ a _, 0 => some a
  | .rangeFunc _ _ _ b, 1 => some b
  | _, _ => none
def codeAt (c : Code) (rp : List Nat) : Option Code := match rp with
  | [] => some c
  | d :: rp => (codeAt c rp).bind (kidC d)
structure LC where
  ps : List Nat
  as : BR
  body : BR
def loopB (f : Nat) (rp : List Nat) : Box (Option LC) := ⟨match P.funcs[f]? with
  | some fn => (match fn.body with
    | some c => (match codeAt c rp with
      | some (.rangeFunc _ ps as body) => bi (allL (fun p => nble (Nat.succ p) fn.ntmps) ps.toList) (some ⟨ps.toList, comp P fn.ntmps true f (0 :: rp) as normK, comp P fn.ntmps true f (1 :: rp) body normK⟩) none
      | _ => none)
    | none => none)
  | none => none⟩
def setArgs (i : Nat) (l : List AV) (T : Fr) : Fr := List.rec (motive := fun _ => Nat → Fr → Fr) (fun _ T => T) (fun a _ ih i T => ih (Nat.succ i) ((setB i).run T a)) l i T
def resOneB (x : ResultVar) : Box (Fr → Hp → Option AV) := match x with
  | .tmp t => ⟨fun T _ => some ((getB t).run T)⟩
  | .cell t ty => om (tyB P ty).run ⟨fun _ _ => none⟩ fun _ => om (szB P ty).run ⟨fun _ _ => none⟩ fun sz => bi (isAggT P ty)
      ⟨fun T H => bi (nbeq ((getB t).run T).tag 10) (bi (nbeq (hget H ((getB t).run T).p).kind 1) (om (takeL (dropL (hget H ((getB t).run T).p).cs ((getB t).run T).q) sz) none fun cs => some (aggV cs)) none) none⟩
      ⟨fun T H => bi (nbeq ((getB t).run T).tag 10) (bi (nbeq (hget H ((getB t).run T).p).kind 1) ((fun v : AV => bi (nbeq v.tag 18) none (some v)) (nthL (hget H ((getB t).run T).p).cs ((getB t).run T).q)) none) none⟩
def resAllB (l : List ResultVar) : Box (Fr → Hp → Option (List AV)) := match l with
  | [] => ⟨fun _ _ => some []⟩
  | x :: l => ⟨fun T H => om ((resOneB P x).run T H) none fun v => om ((resAllB l).run T H) none fun vs => some (v :: vs)⟩
def resultsB (l : List ResultVar) : Box (Fr → Hp → Option AV) := match l with
  | [x] => resOneB P x
  | l => ⟨fun T H => om ((resAllB P l).run T H) none fun vs => some (tupV vs)⟩
/-! ### results that differ by an order alone: each one is copied out behind the memory that was there, and the copies must be the same -/
structure MS where
  v : List AV
  l : List (Nat × AB)
def matL (f : AV → List (Nat × AB) → Option (AV × List (Nat × AB))) (vs : List AV) : List (Nat × AB) → Option MS :=
  List.rec (motive := fun _ => List (Nat × AB) → Option MS) (fun l => some ⟨[], l⟩) (fun v _ ih l => om (f v l) none fun x => om (ih x.2) none fun y => some ⟨x.1 :: y.v, y.l⟩) vs
def matV (H : Hp) (n0 : Nat) (fuel : Nat) : AV → List (Nat × AB) → Option (AV × List (Nat × AB)) :=
  Nat.rec (motive := fun _ => AV → List (Nat × AB) → Option (AV × List (Nat × AB))) (fun _ _ => none) (fun _ ih v l =>
    bi (bi (nble 10 v.tag) (nble v.tag 12) false)
 (bi (nble (Nat.succ v.p) n0) (some (v, l)) ((fun B : AB => bi (bi (nbeq B.kind 1) true (nbeq B.kind 2)) (om (matL ih B.cs l) none fun y =>
        some (⟨v.tag, Nat.add n0 (lenL y.l), v.q, v.r, v.s, []⟩, appL y.l [(v.p, ⟨B.kind, B.t, B.e, y.v⟩)])) none) (hget H v.p)))
 (bi (bi (nble 13 v.tag) (nble v.tag 16) false) (bi (nbeq v.tag 14) none (om (matL ih v.cs l) none fun y => some (⟨v.tag, v.p, v.q, v.r, v.s, y.v⟩, y.l))) (bi (bi (nbeq v.tag 18) true (nble 24 v.tag)) none (some (v, l))))) fuel
def hasN (n : Nat) (l : List (Nat × AB)) : Bool := List.rec (motive := fun _ => Bool) false (fun a _ ih => bi (nbeq a.1 n) true ih) l
def nodupN (l : List (Nat × AB)) : Bool := List.rec (motive := fun _ => Bool) true (fun a t ih => bi (hasN a.1 t) false ih) l
def addAll (l : List (Nat × AB)) : Hp → Hp := List.rec (motive := fun _ => Hp → Hp) (fun H => H) (fun a _ ih H => ih (hnew H a.2)) l
def matR (H0 : Hp) (x : CRes) : Option (AV × List (Nat × AB)) := bi (nbeq x.ok 1) (om (matV x.H H0.n 20 x.v []) none fun y => bi (nodupN y.2) (some y) none) none
def blkAV (l : List (Nat × AB)) : AV := tupV (List.rec (motive := fun _ => List AV) [] (fun a _ ih => ⟨a.2.kind, a.2.t, a.2.e, 0, 0, a.2.cs⟩ :: ih) l)
def sameM (x : AV × List (Nat × AB)) (y : AV × List (Nat × AB)) : Bool := bi (eqA 20 x.1 y.1) (eqA 20 (blkAV x.2) (blkAV y.2)) false
def mergeR (H0 : Hp) (l : List CRes) : List CRes := List.rec (motive := fun _ => List CRes) (failC 80)
  (fun x t _ => om (matR H0 x) (failC 81) fun m => bi (allL (fun y => om (matR H0 y) false fun m' => sameM m m') t) (bi (nble (Nat.add H0.n (lenL m.2)) 32766) [⟨1, 0, m.1, addAll m.2 H0⟩] (failC 83)) (failC 82)) l
/-- the memory, what was there not to be written to -/
def lockH (H : Hp) : Hp := ⟨H.t, H.n, H.n⟩
abbrev Native := List AV → Hp → List CRes
structure FC where
  body : BR
  res : Box (Fr → Hp → Option AV)
  nat : Option Native
  mrg : Bool
variable (Nt : Nat → Option Native) (Mg : Nat → Bool)
def funB (f : Nat) : Box (Option FC) := ⟨match P.funcs[f]? with
  | some fn => (match fn.body with | some c => some ⟨comp P fn.ntmps false f [] c normK, resultsB P fn.results.toList, Nt f, Mg f⟩ | none => none)
  | none => none⟩
def tabF : Nd (Nd (Nd (Box (Option FC)))) := ndFun fun i => ndFun fun j => ndFun fun k => funB P Nt Mg (Nat.add (Nat.mul 64 i) (Nat.add (Nat.mul 8 j) k))
def fcOf (f : Nat) : Option FC := bi (nble 512 f) none (dsel (dsel (dsel (tabF P Nt Mg) (sh f 6)) (sh f 3)) f).run
/-- the blocks for deferred calls are shut -/
def killM (l : List AV) : Hp → Option Hp := List.rec (motive := fun _ => Hp → Option Hp) (fun H => some H) (fun a _ ih H => bi (nble H.lim a.p) (bi (nbeq (hget H a.p).kind 4) (ih (hset H a.p noB)) none) none) l
def retR (fc : FC) (l : RL) : List CRes := fmL l fun x => bi (bi (nbeq x.tag 0) true (nbeq x.tag 2)) (om (killM (marksT x.T) x.H) (failC 59) fun H => om (fc.res.run x.T H) (failC 54) fun v => [⟨1, 0, v, H⟩]) (failC x.i)
/-- a round of a loop over a function -/
def setPs (ps : List Nat) (args : List AV) (T : Fr) : Fr := List.rec (motive := fun _ => List AV → Fr → Fr) (fun _ T => T) (fun p _ ih args T => List.rec (motive := fun _ => Fr) T (fun a args _ => ih args ((setB p).run T a)) args) ps args T
def endR (b : Nat) (x : Res) : List CRes := (fun B : AB => bi (nbeq B.kind 5) (bi (nble x.H.lim b)
  (bi (nbeq x.tag 0) [⟨1, 0, bV true, hset x.H b ⟨5, 0, 0, B.cs⟩⟩] (bi (nbeq x.tag 1) [⟨1, 0, bV false, hset x.H b ⟨5, 2, Nat.add x.i 2, B.cs⟩⟩] (bi (nbeq x.tag 2) [⟨1, 0, bV false, hset x.H b ⟨5, 2, 1, B.cs⟩⟩] (failC x.i)))) (failC 63)) (failC 63)) (hget x.H b)
def begR (r : Rec) (body : BR) (b : Nat) (x : Res) : List CRes := (fun B : AB => bi (nbeq x.tag 0) (bi (nbeq B.kind 5) (bi (nbeq B.t 0) (bi (nble x.H.lim b)
  (fmL (body.run r x.T (hset x.H b ⟨5, 1, B.e, B.cs⟩)) fun y => endR b y) (failC 64)) (failC 64)) (failC 64)) (failC x.i)) (hget x.H b)
def yieldR (r : Rec) (b : Nat) (args : List AV) (H : Hp) : List CRes := (fun B : AB => bi (nbeq B.kind 5)
  (om (loopB P (nthL B.cs 0).p (mapP (nthL B.cs 0).cs)).run (failC 65) fun lc => bi (nbeq (lenL args) (lenL lc.ps))
    (fmL (lc.as.run r (setPs lc.ps args (decF (nthL B.cs 1))) H) fun x => begR r lc.body b x) (failC 65)) (failC 65)) (hget H b)
def bodyR (fc : FC) (r : Rec) (l : List AV) (H : Hp) : List CRes := retR fc (fc.body.run r (setArgs 0 l noFr) H)
def callR (fc : FC) (r : Rec) (l : List AV) (H : Hp) : List CRes := om fc.nat (bi fc.mrg (mergeR H (bodyR fc r l (lockH H))) (bodyR fc r l H)) fun g => g l H
/-- a function that the machine itself answers: its number and 1000 more -/
def extR (v : AV) (args : List AV) (H : Hp) : List CRes := bi (nbeq (lenL v.cs) 0) (bi (allL (fun a => nble a.tag 9) args) (om (Nt (Nat.add v.p 1000)) (failC 56) fun g => g args H) (failC 56)) (failC 56)
def applyR (r : Rec) : Rec := fun v args H => bi (nbeq v.tag 14) (yieldR P r v.p args H)
  (bi (nbeq v.tag 13) (om (takeL v.cs v.q) (failC 57) fun fs => om (fcOf P Nt Mg v.p) (extR Nt v args H) fun fc => callR fc r (appL fs (appL args (dropL v.cs v.q))) H) (failC 60))
def evN (n : Nat) : Rec := Nat.rec (motive := fun _ => Rec) (fun _ _ _ => failC 99) (fun _ ih => applyR P Nt Mg ih) n
end
end
end Go.Eng
