/- An evaluator of Go code over abstract values, written for the kernel; it holds definitions alone. -/
import GoSem.Dispatch
namespace Go.Eng
noncomputable section

/-! ### small words for the kernel -/
def bi {α : Type} (b : Bool) (x y : α) : α := Bool.rec (motive := fun _ => α) y x b
def om {α β : Type} (o : Option α) (n : β) (f : α → β) : β := Option.rec (motive := fun _ => β) n f o
structure Box (α : Type) where
  run : α

/-- tags: 0 to 7 a whole number, 8 bool, 9 string, 10 pointer, 11 slice, 12 map, 13 function, 14 yield, 15 row, 16 tuple, 17 nil, 18 nothing known, 19 undefined, 21 and 22 an int below 0 and not, 23 a value of one cell of which a property alone is known (p: its number) -/
structure AV where
  tag : Nat
  p : Nat
  q : Nat
  r : Nat
  s : Nat
  cs : List AV

def mk1 (t p : Nat) : AV := ⟨t, p, 0, 0, 0, []⟩
/-- nothing is known -/
def unkV : AV := mk1 18 0
/-- the exact value that a temporary has before anything was put down -/
def udV : AV := mk1 19 0
def bV (b : Bool) : AV := mk1 8 (bi b 1 0)
def ptrV (b off : Nat) : AV := ⟨10, b, off, 0, 0, []⟩
def aggV (cs : List AV) : AV := ⟨15, 0, 0, 0, 0, cs⟩
def tupV (cs : List AV) : AV := ⟨16, 0, 0, 0, 0, cs⟩
/-- may stand in one cell -/
def okCell (v : AV) : Bool := bi (Nat.ble v.tag 14) true (bi (Nat.beq v.tag 17) true (Nat.beq v.tag 23))

/-- nil, of the kind n -/
def isNil (a : AV) (n : Nat) : Bool := bi (Nat.beq a.tag 17) (Nat.beq a.p n) false

/-! ### a node of eight branches -/
structure Nd (α : Type) where
  a : α
  b : α
  c : α
  d : α
  e : α
  f : α
  g : α
  h : α
def ndAll {α : Type} (x : α) : Nd α := ⟨x, x, x, x, x, x, x, x⟩
def ndFun {α : Type} (f : Nat → α) : Nd α := ⟨f 0, f 1, f 2, f 3, f 4, f 5, f 6, f 7⟩
def get1 {α : Type} : Nat → Box (Nd α → α)
  | 0 => ⟨fun t => t.a⟩ | 1 => ⟨fun t => t.b⟩ | 2 => ⟨fun t => t.c⟩ | 3 => ⟨fun t => t.d⟩
  | 4 => ⟨fun t => t.e⟩ | 5 => ⟨fun t => t.f⟩ | 6 => ⟨fun t => t.g⟩ | _ => ⟨fun t => t.h⟩
def set1 {α : Type} : Nat → Box (Nd α → α → Nd α)
  | 0 => ⟨fun t x => ⟨x, t.b, t.c, t.d, t.e, t.f, t.g, t.h⟩⟩
  | 1 => ⟨fun t x => ⟨t.a, x, t.c, t.d, t.e, t.f, t.g, t.h⟩⟩
  | 2 => ⟨fun t x => ⟨t.a, t.b, x, t.d, t.e, t.f, t.g, t.h⟩⟩
  | 3 => ⟨fun t x => ⟨t.a, t.b, t.c, x, t.e, t.f, t.g, t.h⟩⟩
  | 4 => ⟨fun t x => ⟨t.a, t.b, t.c, t.d, x, t.f, t.g, t.h⟩⟩
  | 5 => ⟨fun t x => ⟨t.a, t.b, t.c, t.d, t.e, x, t.g, t.h⟩⟩
  | 6 => ⟨fun t x => ⟨t.a, t.b, t.c, t.d, t.e, t.f, x, t.h⟩⟩
  | _ => ⟨fun t x => ⟨t.a, t.b, t.c, t.d, t.e, t.f, t.g, x⟩⟩
abbrev Fr := Nd (Nd (Nd AV))
def d0 (i : Nat) : Nat := Nat.mod i 8
def d1 (i : Nat) : Nat := Nat.mod (Nat.div i 8) 8
def d2 (i : Nat) : Nat := Nat.div i 64
def getB (i : Nat) : Box (Fr → AV) :=
  bi (Nat.ble 511 i) ⟨fun _ => unkV⟩ ⟨fun T => (get1 (d0 i)).run ((get1 (d1 i)).run ((get1 (d2 i)).run T))⟩
def setB (i : Nat) : Box (Fr → AV → Fr) :=
  bi (Nat.ble 511 i) ⟨fun T _ => T⟩ ⟨fun T x => (set1 (d2 i)).run T ((set1 (d1 i)).run ((get1 (d2 i)).run T) ((set1 (d0 i)).run ((get1 (d1 i)).run ((get1 (d2 i)).run T)) x))⟩
def noFr : Fr := ndAll (ndAll (ndAll udV))

/-- the blocks for the deferred calls of loops over functions, laid by the activation (their numbers stand behind all temporaries) -/
def marksT (T : Fr) : List AV := ((get1 7).run ((get1 7).run ((get1 7).run T))).cs
def addMark (T : Fr) (b : Nat) : Fr := (set1 7).run T ((set1 7).run ((get1 7).run T) ((set1 7).run ((get1 7).run ((get1 7).run T)) ⟨16, 0, 0, 0, 0, mk1 3 b :: marksT T⟩))
/-- a frame without the marks -/
def noMk (T : Fr) : Fr := (set1 7).run T ((set1 7).run ((get1 7).run T) ((set1 7).run ((get1 7).run ((get1 7).run T)) udV))
/-- a frame as values -/
def encN {α : Type} (f : α → AV) (t : Nd α) : AV := tupV [f t.a, f t.b, f t.c, f t.d, f t.e, f t.f, f t.g, f t.h]
def nth0 (l : List AV) (n : Nat) : AV := Nat.rec (motive := fun _ => List AV → AV) (fun l => List.rec (motive := fun _ => AV) unkV (fun c _ _ => c) l) (fun _ ih l => List.rec (motive := fun _ => AV) unkV (fun _ t _ => ih t) l) n l
def decN {α : Type} (f : AV → α) (v : AV) : Nd α := ⟨f (nth0 v.cs 0), f (nth0 v.cs 1), f (nth0 v.cs 2), f (nth0 v.cs 3), f (nth0 v.cs 4), f (nth0 v.cs 5), f (nth0 v.cs 6), f (nth0 v.cs 7)⟩
def encF (T : Fr) : AV := encN (encN (encN fun v => v)) T
def decF (v : AV) : Fr := decN (decN (decN fun v => v)) v

/-! ### the memory -/
/-- kind 0: nothing is known; 1: cells (e = 1: these are all of them); 2: a map (t: its keys' tag; e: its clock; the entries: [key, value], p: born); 3: a walk over a map (cs: the map's value; the entries that are left); 4: a block for deferred calls, empty; 5: a loop over a function (t: 0 ready, 1 busy, 2 done, 3 exhausted; e: the pending jump, 0 none, 1 return, 2 + i exit i; cs: where its code stands, its frame) -/
structure AB where
  kind : Nat
  t : Nat
  e : Nat
  cs : List AV
def noB : AB := ⟨0, 0, 0, []⟩
def cellsB (cs : List AV) (e : Nat) : AB := ⟨1, 0, e, cs⟩
abbrev HT := Nd (Nd (Nd (Nd (Nd AB))))
structure Hp where
  t : HT
  n : Nat
  lim : Nat
def noH : Hp := ⟨ndAll (ndAll (ndAll (ndAll (ndAll noB)))), 0, 0⟩
def dsel {α : Type} (t : Nd α) (j : Nat) : α :=
  bi (Nat.beq (Nat.land j 1) 0)
    (bi (Nat.beq (Nat.land j 2) 0) (bi (Nat.beq (Nat.land j 4) 0) t.a t.e) (bi (Nat.beq (Nat.land j 4) 0) t.c t.g))
    (bi (Nat.beq (Nat.land j 2) 0) (bi (Nat.beq (Nat.land j 4) 0) t.b t.f) (bi (Nat.beq (Nat.land j 4) 0) t.d t.h))
def dset {α : Type} (t : Nd α) (j : Nat) (x : α) : Nd α :=
  bi (Nat.beq (Nat.land j 1) 0)
    (bi (Nat.beq (Nat.land j 2) 0) (bi (Nat.beq (Nat.land j 4) 0) ⟨x, t.b, t.c, t.d, t.e, t.f, t.g, t.h⟩ ⟨t.a, t.b, t.c, t.d, x, t.f, t.g, t.h⟩)
      (bi (Nat.beq (Nat.land j 4) 0) ⟨t.a, t.b, x, t.d, t.e, t.f, t.g, t.h⟩ ⟨t.a, t.b, t.c, t.d, t.e, t.f, x, t.h⟩))
    (bi (Nat.beq (Nat.land j 2) 0) (bi (Nat.beq (Nat.land j 4) 0) ⟨t.a, x, t.c, t.d, t.e, t.f, t.g, t.h⟩ ⟨t.a, t.b, t.c, t.d, t.e, x, t.g, t.h⟩)
      (bi (Nat.beq (Nat.land j 4) 0) ⟨t.a, t.b, t.c, x, t.e, t.f, t.g, t.h⟩ ⟨t.a, t.b, t.c, t.d, t.e, t.f, t.g, x⟩))
def sh (i k : Nat) : Nat := Nat.shiftRight i k
def htget (t : HT) (i : Nat) : AB := dsel (dsel (dsel (dsel (dsel t (sh i 12)) (sh i 9)) (sh i 6)) (sh i 3)) i
def htset (t : HT) (i : Nat) (b : AB) : HT :=
  dset t (sh i 12) (dset (dsel t (sh i 12)) (sh i 9) (dset (dsel (dsel t (sh i 12)) (sh i 9)) (sh i 6) (dset (dsel (dsel (dsel t (sh i 12)) (sh i 9)) (sh i 6)) (sh i 3) (dset (dsel (dsel (dsel (dsel t (sh i 12)) (sh i 9)) (sh i 6)) (sh i 3)) i b))))
def hget (H : Hp) (i : Nat) : AB := htget H.t i
def hset (H : Hp) (i : Nat) (b : AB) : Hp := ⟨htset H.t i b, H.n, H.lim⟩
def hnew (H : Hp) (b : AB) : Hp := ⟨htset H.t H.n b, Nat.succ H.n, H.lim⟩

/-! ### results -/
structure Res where
  tag : Nat        -- 0 on, 1 exit, 2 return, 3 failed
  i : Nat
  T : Fr
  H : Hp
structure CRes where
  ok : Nat         -- 1 returned; else failed
  why : Nat
  v : AV
  H : Hp
abbrev RL := List Res
def failR (n : Nat) : RL := [⟨3, n, noFr, noH⟩]
def failC (n : Nat) : List CRes := [⟨0, n, unkV, noH⟩]
abbrev Rec := AV → List AV → Hp → List CRes
abbrev Run := Rec → Fr → Hp → RL
abbrev BR := Box Run
abbrev Kont := Hp → AV → RL
def normK : BR := ⟨fun _ T H => [⟨0, 0, T, H⟩]⟩

/-! ### lists -/
def appL {α : Type} (x y : List α) : List α := List.rec (motive := fun _ => List α) y (fun a _ ih => a :: ih) x
def fmL {α β : Type} (l : List α) (f : α → List β) : List β := List.rec (motive := fun _ => List β) [] (fun a _ ih => appL (f a) ih) l
def dropL {α : Type} (l : List α) (n : Nat) : List α := Nat.rec (motive := fun _ => List α → List α) (fun l => l) (fun _ ih l => List.rec (motive := fun _ => List α) [] (fun _ t _ => ih t) l) n l
def takeL {α : Type} (l : List α) (n : Nat) : Option (List α) :=
  Nat.rec (motive := fun _ => List α → Option (List α)) (fun _ => some []) (fun _ ih l => List.rec (motive := fun _ => Option (List α)) none (fun c t _ => om (ih t) none fun x => some (c :: x)) l) n l
def nthL (l : List AV) (n : Nat) : AV := Nat.rec (motive := fun _ => List AV → AV) (fun l => List.rec (motive := fun _ => AV) unkV (fun c _ _ => c) l) (fun _ ih l => List.rec (motive := fun _ => AV) unkV (fun _ t _ => ih t) l) n l
def lenL {α : Type} (l : List α) : Nat := List.rec (motive := fun _ => Nat) 0 (fun _ _ ih => Nat.succ ih) l
def over (new : List AV) : List AV → Option (List AV) :=
  List.rec (motive := fun _ => List AV → Option (List AV)) (fun cs => some cs) (fun x _ ih cs => List.rec (motive := fun _ => Option (List AV)) none (fun _ cs' _ => om (ih cs') none fun r => some (x :: r)) cs) new
def putC (off : Nat) (new cs : List AV) : Option (List AV) :=
  Nat.rec (motive := fun _ => List AV → Option (List AV)) (fun cs => over new cs)
    (fun _ ih cs => List.rec (motive := fun _ => Option (List AV)) none (fun c cs _ => om (ih cs) none fun r => some (c :: r)) cs) off cs
def allL {α : Type} (f : α → Bool) (l : List α) : Bool := List.rec (motive := fun _ => Bool) true (fun a _ ih => bi (f a) ih false) l
def cellsOf (v : AV) : List AV := bi (Nat.beq v.tag 15) v.cs [v]
def repC (n : Nat) (cs : List AV) : List AV := Nat.rec (motive := fun _ => List AV) [] (fun _ ih => appL cs ih) n

/-! ### constants -/
def kCode : IntKind → Nat
  | .i8 => 0 | .i16 => 1 | .i32 => 2 | .i64 => 3 | .u8 => 4 | .u16 => 5 | .u32 => 6 | .u64 => 7
def kBits (c : Nat) : Nat := Nat.shiftLeft 8 (Nat.mod c 4)
def kMod (c : Nat) : Nat := Nat.pow 2 (kBits c)
def kHalf (c : Nat) : Nat := bi (Nat.ble 4 c) (kMod c) (Nat.div (kMod c) 2)
def isNeg (c a : Nat) : Bool := Nat.ble (kHalf c) a
def bytesN (l : List UInt8) : Nat := l.foldl (fun n b => Nat.add (Nat.mul n 256) b.toNat) 0
def intV (k : IntKind) (n : Int) : AV := Int.rec (motive := fun _ => AV) (fun a => bi (Nat.ble (Nat.succ a) (kHalf (kCode k))) (mk1 (kCode k) a) unkV)
  (fun a => bi (Nat.ble 4 (kCode k)) unkV (bi (Nat.ble (Nat.succ a) (kHalf (kCode k))) (mk1 (kCode k) (Nat.sub (kMod (kCode k)) (Nat.succ a))) unkV)) n
def atomOf : Value → AV
  | .int k n => intV k n
  | .bool b => bV b
  | .string s => ⟨9, bytesN s.data.toList, s.size, 0, 0, []⟩
  | .pointer none => mk1 17 0
  | .slice none 0 0 => mk1 17 1
  | .map none => mk1 17 2
  | .nilFunc => mk1 17 3
  | .nilIface => mk1 17 4
  | _ => unkV
def avOf : Value → AV
  | .agg cs => bi (allL okCell (cs.toList.map atomOf)) (aggV (cs.toList.map atomOf)) unkV
  | v => atomOf v

section
variable (P : Program)
def tyB (t : TypeId) : Box (Option TypeDesc) := ⟨P.underlying t⟩
def szB (t : TypeId) : Box (Option Nat) := ⟨(P.info? t).map (·.size)⟩
def btB (t : TypeId) : Box (Option Nat) := ⟨(P.info? t).map (·.bytes)⟩
/-- the zero value, if all of it is known -/
def zeB (t : TypeId) : Box (Option AV) := ⟨((P.info? t).bind (·.zero)).bind fun z => bi (Nat.beq (avOf z).tag 18) none (some (avOf z))⟩
def isAggT (t : TypeId) : Bool := match (tyB P t).run with | some (.struct _) => true | some (.array _ _) => true | _ => false

/-! ### what one operation does: its operands' values, the memory, what comes behind -/
inductive OpC where
  | c0 (f : Box (Hp → Kont → RL))
  | c1 (x : Operand) (f : Box (AV → Hp → Kont → RL))
  | c2 (x y : Operand) (f : Box (AV → AV → Hp → Kont → RL))
  | c3 (x y z : Operand) (f : Box (AV → AV → AV → Hp → Kont → RL))
  | cN (xs : List Operand) (f : Box (List AV → Hp → Kont → RL))
  | call (x : Operand) (xs : List Operand)
def badC (n : Nat) : OpC := .c0 ⟨fun _ _ => failR n⟩
def cellsOk (v : AV) : Bool := bi (okCell v) true (Nat.beq v.tag 15)
def newC (H : Hp) (B : AB) (mk : Nat → AV) (c : Kont) : RL := bi (Nat.ble H.n 32766) (c (hnew H B) (mk H.n)) (failR 70)
def setC (H : Hp) (b : Nat) (B : AB) (v : AV) (c : Kont) : RL := bi (Nat.ble H.lim b) (c (hset H b B) v) (failR 71)
def ptr0 (b : Nat) : AV := ptrV b 0
def moveC : Box (AV → Hp → Kont → RL) := ⟨fun v H c => c H v⟩
def pickC : Box (AV → AV → AV → Hp → Kont → RL) := ⟨fun a b d H c => bi (Nat.beq a.tag 8) (c H (bi (Nat.beq a.p 1) b d)) (failR 2)⟩
def allocC (z : AV) : Box (Hp → Kont → RL) := ⟨fun H c => newC H (cellsB (cellsOf z) 1) ptr0 c⟩
def boxC : Box (AV → Hp → Kont → RL) := ⟨fun v H c => bi (cellsOk v) (newC H (cellsB (cellsOf v) 1) ptr0 c) (failR 4)⟩
def loadA (sz : Nat) : Box (AV → Hp → Kont → RL) := ⟨fun a H c => bi (Nat.beq a.tag 10) (bi (Nat.beq (hget H a.p).kind 1) (om (takeL (dropL (hget H a.p).cs a.q) sz) (failR 6) fun l => c H (aggV l)) (failR 6)) (failR 6)⟩
def knownK (v : AV) (H : Hp) (c : Kont) (n : Nat) : RL := bi (Nat.beq v.tag 18) (failR n) (c H v)
def load1 : Box (AV → Hp → Kont → RL) := ⟨fun a H c => bi (Nat.beq a.tag 10) (bi (Nat.beq (hget H a.p).kind 1) (knownK (nthL (hget H a.p).cs a.q) H c 6) (failR 6)) (failR 6)⟩
def storeC (sz : Nat) : Box (AV → AV → Hp → Kont → RL) := ⟨fun a x H c => bi (Nat.beq a.tag 10) (bi (Nat.beq (hget H a.p).kind 1) (bi (cellsOk x) (bi (Nat.beq (lenL (cellsOf x)) sz)
  (om (putC a.q (cellsOf x) (hget H a.p).cs) (failR 7) fun cs => setC H a.p ⟨1, (hget H a.p).t, (hget H a.p).e, cs⟩ udV c) (failR 7)) (failR 7)) (failR 7)) (failR 7)⟩
def nilC : Box (AV → Hp → Kont → RL) := ⟨fun v H c => bi (Nat.ble v.tag 16) (c H v) (failR 8)⟩
def int2 (k : Nat) (f : Box (Nat → Nat → AV)) : Box (AV → AV → Hp → Kont → RL) := ⟨fun a b H c => bi (Nat.beq a.tag k) (bi (Nat.beq b.tag k) (c H (f.run a.p b.p)) (failR 9)) (failR 9)⟩
def int2z (k : Nat) (f : Box (Nat → Nat → AV)) : Box (AV → AV → Hp → Kont → RL) := ⟨fun a b H c => bi (Nat.beq a.tag k) (bi (Nat.beq b.tag k) (bi (Nat.beq b.p 0) (failR 9) (c H (f.run a.p b.p))) (failR 9)) (failR 9)⟩
def biased (c a : Nat) : Nat := Nat.mod (Nat.add a (kHalf c)) (kMod c)
def magn (c a : Nat) : Nat := bi (isNeg c a) (Nat.sub (kMod c) a) a
def negN (c a : Nat) : Nat := Nat.mod (Nat.sub (kMod c) a) (kMod c)
def xb (a b : Bool) : Bool := bi a (bi b false true) b
def quoN (c a b : Nat) : Nat := bi (xb (isNeg c a) (isNeg c b)) (negN c (Nat.div (magn c a) (magn c b))) (Nat.mod (Nat.div (magn c a) (magn c b)) (kMod c))
def remN (c a b : Nat) : Nat := bi (isNeg c a) (negN c (Nat.mod (magn c a) (magn c b))) (Nat.mod (magn c a) (magn c b))
def nb (b : Bool) : Bool := bi b false true
def intC (op : BinOp) (c : Nat) : Option (Box (AV → AV → Hp → Kont → RL)) := match op with
  | .add => some (int2 c ⟨fun a b => mk1 c (Nat.mod (Nat.add a b) (kMod c))⟩)
  | .sub => some (int2 c ⟨fun a b => mk1 c (Nat.mod (Nat.sub (Nat.add a (kMod c)) b) (kMod c))⟩)
  | .mul => some (int2 c ⟨fun a b => mk1 c (Nat.mod (Nat.mul a b) (kMod c))⟩)
  | .and => some (int2 c ⟨fun a b => mk1 c (Nat.land a b)⟩)
  | .or => some (int2 c ⟨fun a b => mk1 c (Nat.lor a b)⟩)
  | .xor => some (int2 c ⟨fun a b => mk1 c (Nat.xor a b)⟩)
  | .andNot => some (int2 c ⟨fun a b => mk1 c (Nat.land a (Nat.sub (Nat.pred (kMod c)) b))⟩)
  | .eql => some (int2 c ⟨fun a b => bV (Nat.beq a b)⟩)
  | .neq => some (int2 c ⟨fun a b => bV (nb (Nat.beq a b))⟩)
  | .lss => some (int2 c ⟨fun a b => bV (nb (Nat.ble (biased c b) (biased c a)))⟩)
  | .leq => some (int2 c ⟨fun a b => bV (Nat.ble (biased c a) (biased c b))⟩)
  | .gtr => some (int2 c ⟨fun a b => bV (nb (Nat.ble (biased c a) (biased c b)))⟩)
  | .geq => some (int2 c ⟨fun a b => bV (Nat.ble (biased c b) (biased c a))⟩)
  | .quo => some (int2z c ⟨fun a b => mk1 c (quoN c a b)⟩)
  | .rem => some (int2z c ⟨fun a b => mk1 c (remN c a b)⟩)
  | _ => none
def shlN (c a n : Nat) : Nat := bi (Nat.ble (kBits c) n) 0 (Nat.mod (Nat.shiftLeft a n) (kMod c))
def shrN (c a n : Nat) : Nat := bi (isNeg c a)
  (bi (Nat.ble (kBits c) n) (Nat.pred (kMod c)) (Nat.sub (Nat.pred (kMod c)) (Nat.shiftRight (Nat.sub (Nat.pred (kMod c)) a) n)))
  (bi (Nat.ble (kBits c) n) 0 (Nat.shiftRight a n))
def shC (left : Bool) (c d : Nat) : Box (AV → AV → Hp → Kont → RL) :=
  ⟨fun a b H k => bi (Nat.beq a.tag c) (bi (Nat.beq b.tag d) (bi (isNeg d b.p) (failR 9) (k H (mk1 c (bi left (shlN c a.p b.p) (shrN c a.p b.p))))) (failR 9)) (failR 9)⟩
/-- against nil: n the nil's number, m the tag of what is not nil -/
def nilEqC (want : Bool) (n m : Nat) : Box (AV → AV → Hp → Kont → RL) := ⟨fun a b H c =>
  bi (isNil a n)
    (bi (isNil b n) (c H (bV want)) (bi (Nat.beq b.tag m) (c H (bV (nb want))) (failR 9)))
    (bi (Nat.beq a.tag m) (bi (isNil b n) (c H (bV (nb want))) (failR 9)) (failR 9))⟩
def boolEqC (want : Bool) : Box (AV → AV → Hp → Kont → RL) := ⟨fun a b H c => bi (Nat.beq a.tag 8) (bi (Nat.beq b.tag 8) (c H (bV (bi want (Nat.beq a.p b.p) (nb (Nat.beq a.p b.p))))) (failR 9)) (failR 9)⟩
def strEqC (want : Bool) : Box (AV → AV → Hp → Kont → RL) := ⟨fun a b H c => bi (Nat.beq a.tag 9) (bi (Nat.beq b.tag 9)
  (c H (bV (bi want (bi (Nat.beq a.q b.q) (Nat.beq a.p b.p) false) (nb (bi (Nat.beq a.q b.q) (Nat.beq a.p b.p) false))))) (failR 9)) (failR 9)⟩
def catC : Box (AV → AV → Hp → Kont → RL) := ⟨fun a b H c => bi (Nat.beq a.tag 9) (bi (Nat.beq b.tag 9) (bi (Nat.ble (Nat.add a.q b.q) 1000000)
  (c H ⟨9, Nat.add (Nat.mul a.p (Nat.pow 256 b.q)) b.p, Nat.add a.q b.q, 0, 0, []⟩) (failR 9)) (failR 9)) (failR 9)⟩
/-- a < b, as words -/
def strLt (a b : AV) : Bool :=
  bi (Nat.ble (Nat.succ (Nat.mul a.p (Nat.pow 256 b.q))) (Nat.mul b.p (Nat.pow 256 a.q))) true
    (bi (Nat.beq (Nat.mul a.p (Nat.pow 256 b.q)) (Nat.mul b.p (Nat.pow 256 a.q))) (Nat.ble (Nat.succ a.q) b.q) false)
def strCmpC (f : AV → AV → Bool) : Box (AV → AV → Hp → Kont → RL) := ⟨fun a b H c => bi (Nat.beq a.tag 9) (bi (Nat.beq b.tag 9) (c H (bV (f a b))) (failR 9)) (failR 9)⟩
/-- two cells of one tag -/
def cellEq (tag off : Nat) : Box (List AV → List AV → Option Bool) := ⟨fun x y => bi (Nat.beq (nthL x off).tag tag) (bi (Nat.beq (nthL y off).tag tag)
  (some (bi (Nat.beq (nthL x off).q (nthL y off).q) (Nat.beq (nthL x off).p (nthL y off).p) false)) none) none⟩
def fieldEq (d : TypeDesc) (sub : Option (Box (List AV → List AV → Option Bool))) (off sz : Nat) : Option (Box (List AV → List AV → Option Bool)) := match d with
  | .int k => some (cellEq (kCode k) off)
  | .bool => some (cellEq 8 off)
  | .string => some (cellEq 9 off)
  | .struct _ => om sub none fun g => some ⟨fun x y => om (takeL (dropL x off) sz) none fun x' => om (takeL (dropL y off) sz) none fun y' => g.run x' y'⟩
  | _ => none
def eqFs (ih : TypeId → Option (Box (List AV → List AV → Option Bool))) (l : List Field) : Option (Box (List AV → List AV → Option Bool)) := match l with
  | [] => some ⟨fun _ _ => some true⟩
  | f :: l => bi (f.name == "_") none (om (szB P f.type).run none fun sz => om (tyB P f.type).run none fun d => om (fieldEq d (ih f.type) f.offset sz) none fun g => om (eqFs ih l) none fun r =>
      some ⟨fun x y => om (g.run x y) none fun b => bi b (r.run x y) (some false)⟩)
/-- '==' of two structs, by their cells -/
def eqTB (fuel : Nat) : TypeId → Option (Box (List AV → List AV → Option Bool)) :=
  Nat.rec (motive := fun _ => TypeId → Option (Box (List AV → List AV → Option Bool))) (fun _ => none)
    (fun _ ih t => match (tyB P t).run with | some (.struct fs) => bi (P.stoodInHeld t) none (eqFs P ih fs.toList) | _ => none) fuel
def aggEqC (want : Bool) (g : Box (List AV → List AV → Option Bool)) : Box (AV → AV → Hp → Kont → RL) := ⟨fun a b H c => bi (Nat.beq a.tag 15) (bi (Nat.beq b.tag 15)
  (om (g.run a.cs b.cs) (failR 9) fun e => c H (bV (bi want e (nb e)))) (failR 9)) (failR 9)⟩
def badB2 : Box (AV → AV → Hp → Kont → RL) := ⟨fun _ _ _ _ => failR 9⟩
def strOpC (op : BinOp) : Box (AV → AV → Hp → Kont → RL) := match op with
  | .eql => strEqC true
  | .neq => strEqC false
  | .lss => strCmpC strLt
  | .gtr => strCmpC fun a b => strLt b a
  | .leq => strCmpC fun a b => nb (strLt b a)
  | .geq => strCmpC fun a b => nb (strLt a b)
  | .add => catC
  | _ => badB2
def nilOpC (op : BinOp) (n m : Nat) : Box (AV → AV → Hp → Kont → RL) := match op with | .eql => nilEqC true n m | .neq => nilEqC false n m | _ => badB2
def boolOpC (op : BinOp) : Box (AV → AV → Hp → Kont → RL) := match op with | .eql => boolEqC true | .neq => boolEqC false | _ => badB2
def aggOpC (op : BinOp) (t : TypeId) : Box (AV → AV → Hp → Kont → RL) := bi (P.eqGuardType P.depth t) badB2 (om (eqTB P 20 t) badB2 fun g => match op with | .eql => aggEqC true g | .neq => aggEqC false g | _ => badB2)
/-- a sign alone is known of the one, and the other is 0 -/
def signC (op : BinOp) (f : Box (AV → AV → Hp → Kont → RL)) : Box (AV → AV → Hp → Kont → RL) := match op with
  | .lss => ⟨fun a b H c => bi (Nat.ble a.tag 20) (f.run a b H c) (bi (bi (Nat.beq b.tag 3) (Nat.beq b.p 0) false) (bi (Nat.beq a.tag 21) (c H (bV true)) (bi (Nat.beq a.tag 22) (c H (bV false)) (failR 9))) (failR 9))⟩
  | .geq => ⟨fun a b H c => bi (Nat.ble a.tag 20) (f.run a b H c) (bi (bi (Nat.beq b.tag 3) (Nat.beq b.p 0) false) (bi (Nat.beq a.tag 21) (c H (bV false)) (bi (Nat.beq a.tag 22) (c H (bV true)) (failR 9))) (failR 9))⟩
  | .gtr => ⟨fun a b H c => bi (Nat.ble a.tag 20) (f.run a b H c) (bi (Nat.beq a.tag 22) (bi (Nat.beq b.tag 3) (c H (mk1 23 1)) (failR 9)) (failR 9))⟩
  | _ => f
def intOpC (op : BinOp) (k : IntKind) : Box (AV → AV → Hp → Kont → RL) := om (intC op (kCode k)) badB2 fun f => bi (Nat.beq (kCode k) 3) (signC op f) f
def plainC (op : BinOp) (t : TypeId) : Box (AV → AV → Hp → Kont → RL) := match (tyB P t).run with
  | some (.int k) => intOpC op k
  | some .string => strOpC op
  | some .bool => boolOpC op
  | some (.pointer _) => nilOpC op 0 10
  | some (.slice _) => nilOpC op 1 11
  | some (.map _ _) => nilOpC op 2 12
  | some (.func _ _ _) => nilOpC op 3 13
  | some (.struct _) => aggOpC P op t
  | _ => badB2
def shOpC (left : Bool) (t ty : TypeId) : Box (AV → AV → Hp → Kont → RL) := match (tyB P t).run, (tyB P ty).run with
  | some (.int k), some (.int d) => shC left (kCode k) (kCode d)
  | _, _ => badB2
def binC (op : BinOp) (t : TypeId) (ty : TypeId) : Box (AV → AV → Hp → Kont → RL) := match op with
  | .shl => shOpC P true t ty
  | .shr => shOpC P false t ty
  | op => plainC P op t
def unC (op : UnOp) (t : TypeId) : Box (AV → Hp → Kont → RL) := match op, (tyB P t).run with
  | .not, _ => ⟨fun v H c => bi (Nat.beq v.tag 8) (c H (mk1 8 (Nat.sub 1 v.p))) (failR 10)⟩
  | .neg, some (.int k) => ⟨fun v H c => bi (Nat.beq v.tag (kCode k)) (c H (mk1 (kCode k) (negN (kCode k) v.p))) (failR 10)⟩
  | .xor, some (.int k) => ⟨fun v H c => bi (Nat.beq v.tag (kCode k)) (c H (mk1 (kCode k) (Nat.sub (Nat.pred (kMod (kCode k))) v.p))) (failR 10)⟩
  | _, _ => ⟨fun _ _ _ => failR 10⟩
def cnvN (a b n : Nat) : Nat := bi (isNeg a n) (Nat.mod (Nat.add n (Nat.sub (Nat.mul (kMod b) (kMod a)) (kMod a))) (kMod b)) (Nat.mod n (kMod b))
def strOf (l : List AV) : Option Nat := List.rec (motive := fun _ => Nat → Option Nat) (fun n => some n) (fun v _ ih n => bi (Nat.beq v.tag 4) (ih (Nat.add (Nat.mul n 256) v.p)) none) l 0
def b2sC : Box (AV → Hp → Kont → RL) := ⟨fun v H c => bi (isNil v 1) (c H ⟨9, 0, 0, 0, 0, []⟩)
  (bi (Nat.beq v.tag 11) (bi (Nat.beq (hget H v.p).kind 1) (om (takeL (dropL (hget H v.p).cs v.q) v.r) (failR 11) fun l => om (strOf l) (failR 11) fun n => c H ⟨9, n, v.r, 0, 0, []⟩) (failR 11)) (failR 11))⟩
def isU8 (e : TypeId) : Bool := match (tyB P e).run with | some (.int .u8) => true | _ => false
def convC (a b : TypeId) : Box (AV → Hp → Kont → RL) := match (tyB P a).run, (tyB P b).run with
  | some (.int ka), some (.int kb) => ⟨fun v H c => bi (Nat.beq v.tag (kCode ka)) (c H (mk1 (kCode kb) (cnvN (kCode ka) (kCode kb) v.p))) (failR 11)⟩
  | some .string, some .string => ⟨fun v H c => bi (Nat.beq v.tag 9) (c H v) (failR 11)⟩
  | some (.slice e), some .string => bi (isU8 P e) b2sC ⟨fun _ _ _ => failR 11⟩
  | _, _ => ⟨fun _ _ _ => failR 11⟩
/-- parts put into the cells: places and sizes, in the parts' order -/
def fillL (pl : List (Nat × Nat)) : List AV → List AV → Option (List AV) :=
  List.rec (motive := fun _ => List AV → List AV → Option (List AV)) (fun _ cs => some cs)
    (fun oz _ ih vs cs => List.rec (motive := fun _ => Option (List AV)) none
      (fun v vs _ => bi (cellsOk v) (bi (Nat.beq (lenL (cellsOf v)) oz.2) (om (putC oz.1 (cellsOf v) cs) none fun cs => ih vs cs) none) none) vs) pl
def placesOf (f : Nat → Option (Nat × Nat)) (l : List Nat) : Option (List (Nat × Nat)) := match l with
  | [] => some []
  | i :: l => om (f i) none fun x => om (placesOf f l) none fun r => some (x :: r)
def buildC (pl : List (Nat × Nat)) (z : List AV) : Box (List AV → Hp → Kont → RL) := ⟨fun vs H c => om (fillL pl vs z) (failR 4) fun cs => c H (aggV cs)⟩
def slV (b off len s : Nat) : AV := ⟨11, b, off, len, s, []⟩
def exS (c : Nat) : Nat := Nat.succ (Nat.mul 2 c)
def lbS (c : Nat) : Nat := Nat.mul 2 c
def isEx (s : Nat) : Bool := Nat.beq (Nat.land s 1) 1
def capS (s : Nat) : Nat := Nat.div s 2
def buildSliceC (pl : List (Nat × Nat)) (z : List AV) (len : Nat) : Box (List AV → Hp → Kont → RL) :=
  ⟨fun vs H c => om (fillL pl vs z) (failR 5) fun cs => newC H (cellsB cs 1) (fun b => slV b 0 len (exS len)) c⟩
def makeSliceC (z : List AV) : Box (AV → AV → Hp → Kont → RL) := ⟨fun l m H c => bi (Nat.beq l.tag 3) (bi (Nat.beq m.tag 3) (bi (Nat.ble l.p m.p) (bi (Nat.ble m.p 100000)
  (newC H (cellsB (repC m.p z) 1) (fun b => slV b 0 l.p (exS m.p)) c) (failR 12)) (failR 12)) (failR 12)) (failR 12)⟩
def ixOk (v : AV) (n : Nat) : Bool := bi (Nat.ble v.tag 7) (bi (Nat.ble v.p n) (nb (isNeg v.tag v.p)) false) false
/-- x[l:h] of a slice -/
def cutV (sz : Nat) (x : AV) (l h s : Nat) : AV := slV x.p (Nat.add x.q (Nat.mul l sz)) (Nat.sub h l) s
def cutC (sz : Nat) (hasHi : Bool) : Box (AV → AV → AV → Hp → Kont → RL) := ⟨fun x l h H c =>
  bi (Nat.beq x.tag 11)
    ((fun hi : AV => bi (ixOk hi (capS x.s)) (bi (ixOk l hi.p) (bi (bi (Nat.beq l.p 0) true (Nat.ble (Nat.succ l.p) (capS x.s)))
      (c H (cutV sz x l.p hi.p (bi (isEx x.s) (exS (Nat.sub (capS x.s) l.p)) (lbS (Nat.sub (capS x.s) l.p))))) (failR 13)) (failR 13)) (failR 13)) (bi hasHi h (mk1 3 x.r)))
    (bi (isNil x 1) (bi (ixOk l 0) (bi (ixOk (bi hasHi h (mk1 3 0)) 0) (c H x) (failR 13)) (failR 13)) (failR 13))⟩
def cut3C (sz : Nat) : Box (List AV → Hp → Kont → RL) := ⟨fun vs H c => (fun x l h m : AV => bi (Nat.beq x.tag 11)
    (bi (ixOk m (capS x.s)) (bi (ixOk h m.p) (bi (ixOk l h.p) (bi (bi (Nat.beq l.p 0) true (Nat.ble (Nat.succ l.p) m.p))
      (c H (cutV sz x l.p h.p (exS (Nat.sub m.p l.p)))) (failR 13)) (failR 13)) (failR 13)) (failR 13)) (failR 13)) (nthL vs 0) (nthL vs 1) (nthL vs 2) (nthL vs 3)⟩
def cutArrC (n sz : Nat) (hasHi : Bool) : Box (AV → AV → AV → Hp → Kont → RL) := ⟨fun x l h H c =>
  bi (Nat.beq x.tag 10) ((fun hi : AV => bi (ixOk hi n) (bi (ixOk l hi.p) (bi (bi (Nat.beq l.p 0) true (Nat.ble (Nat.succ l.p) n))
      (c H (cutV sz x l.p hi.p (exS (Nat.sub n l.p)))) (failR 13)) (failR 13)) (failR 13)) (bi hasHi h (mk1 3 n))) (failR 13)⟩
def cutStr (x : AV) (l h : Nat) : AV := ⟨9, Nat.mod (Nat.div x.p (Nat.pow 256 (Nat.sub x.q h))) (Nat.pow 256 (Nat.sub h l)), Nat.sub h l, 0, 0, []⟩
def cutStrC (hasHi : Bool) : Box (AV → AV → AV → Hp → Kont → RL) := ⟨fun x l h H c =>
  bi (Nat.beq x.tag 9) ((fun hi : AV => bi (ixOk hi x.q) (bi (ixOk l hi.p) (c H (cutStr x l.p hi.p)) (failR 13)) (failR 13)) (bi hasHi h (mk1 3 x.q))) (failR 13)⟩
def zeroO : Operand := .const (.int .i64 0)
def sliceOp (t : TypeId) (x : Operand) (lo hi mx : Option Operand) : OpC := match (tyB P t).run, mx with
  | some (.slice e), none => om (szB P e).run (badC 13) fun sz => bi (Nat.beq sz 0) (badC 13) (.c3 x (lo.getD zeroO) (hi.getD zeroO) (cutC sz hi.isSome))
  | some (.slice e), some m => om (szB P e).run (badC 13) fun sz => om hi (badC 13) fun h => .cN [x, lo.getD zeroO, h, m] (cut3C sz)
  | some .string, none => .c3 x (lo.getD zeroO) (hi.getD zeroO) (cutStrC hi.isSome)
  | some (.array n e), none => om (szB P e).run (badC 13) fun sz => .c3 x (lo.getD zeroO) (hi.getD zeroO) (cutArrC n sz hi.isSome)
  | _, _ => badC 13
def fieldAddrC (off : Nat) : Box (AV → Hp → Kont → RL) := ⟨fun v H c => bi (Nat.beq v.tag 10) (c H (ptrV v.p (Nat.add v.q off))) (failR 14)⟩
/-- the value of a type out of cells -/
def partK (agg : Bool) (off sz : Nat) (cs : List AV) (H : Hp) (c : Kont) (n : Nat) : RL := bi agg (om (takeL (dropL cs off) sz) (failR n) fun l => c H (aggV l)) (knownK (nthL cs off) H c n)
def fieldC (agg : Bool) (off sz : Nat) : Box (AV → Hp → Kont → RL) := ⟨fun v H c => bi (Nat.beq v.tag 15) (partK agg off sz v.cs H c 15) (failR 15)⟩
def ixSlC (sz : Nat) : Box (AV → AV → Hp → Kont → RL) := ⟨fun x i H c => bi (Nat.beq x.tag 11) (bi (ixOk i (Nat.pred x.r)) (bi (Nat.beq x.r 0) (failR 16) (c H (ptrV x.p (Nat.add x.q (Nat.mul i.p sz))))) (failR 16)) (failR 16)⟩
def ixArrC (n sz : Nat) : Box (AV → AV → Hp → Kont → RL) := ⟨fun x i H c => bi (Nat.beq x.tag 10) (bi (ixOk i (Nat.pred n)) (bi (Nat.beq n 0) (failR 16) (c H (ptrV x.p (Nat.add x.q (Nat.mul i.p sz))))) (failR 16)) (failR 16)⟩
def ixAggC (agg : Bool) (n sz : Nat) : Box (AV → AV → Hp → Kont → RL) := ⟨fun x i H c => bi (Nat.beq x.tag 15) (bi (ixOk i (Nat.pred n)) (bi (Nat.beq n 0) (failR 17) (partK agg (Nat.mul i.p sz) sz x.cs H c 17)) (failR 17)) (failR 17)⟩
def strAt (x : AV) (i : Nat) : Nat := Nat.mod (Nat.div x.p (Nat.pow 256 (Nat.sub (Nat.pred x.q) i))) 256
def ixStrC : Box (AV → AV → Hp → Kont → RL) := ⟨fun x i H c => bi (Nat.beq x.tag 9) (bi (ixOk i (Nat.pred x.q)) (bi (Nat.beq x.q 0) (failR 17) (c H (mk1 4 (strAt x i.p)))) (failR 17)) (failR 17)⟩

/-! maps: keys are whole numbers or strings; an entry is [key, value], p its number -/
/-- a key of the kind kt: below 32 a value's tag; from 32 on an array of whole numbers: 32 + 8 * how many + their kind -/
def keyA (kt : Nat) (k : AV) : Bool := bi (Nat.ble 32 kt) (bi (Nat.beq k.tag 15) (bi (Nat.beq (lenL k.cs) (Nat.div (Nat.sub kt 32) 8)) (allL (fun c => Nat.beq c.tag (Nat.mod kt 8)) k.cs) false) false) (Nat.beq k.tag kt)
def sameL (x : List AV) : List AV → Bool := List.rec (motive := fun _ => List AV → Bool) (fun y => List.rec (motive := fun _ => Bool) true (fun _ _ _ => false) y) (fun a _ ih y => List.rec (motive := fun _ => Bool) false (fun b y _ => bi (Nat.beq a.p b.p) (ih y) false) y) x
def sameK (kt : Nat) (a b : AV) : Bool := bi (Nat.ble 32 kt) (sameL a.cs b.cs) (bi (Nat.beq a.p b.p) (Nat.beq a.q b.q) false)
def findE (kt : Nat) (k : AV) (es : List AV) : Option AV := List.rec (motive := fun _ => Option AV) none (fun e _ ih => bi (sameK kt (nthL e.cs 0) k) (some (nthL e.cs 1)) ih) es
def entV (b : Nat) (k v : AV) : AV := ⟨16, b, 0, 0, 0, [k, v]⟩
def updE (kt : Nat) (k v : AV) (es : List AV) : List AV := List.rec (motive := fun _ => List AV) [] (fun e es ih => bi (sameK kt (nthL e.cs 0) k) (entV e.p k v :: es) (e :: ih)) es
def delE (kt : Nat) (k : AV) (es : List AV) : List AV := List.rec (motive := fun _ => List AV) [] (fun e es ih => bi (sameK kt (nthL e.cs 0) k) es (e :: ih)) es
def keyTag (t : TypeId) : Option Nat := match (tyB P t).run with
  | some (.int k) => some (kCode k)
  | some .string => some 9
  | some (.array n e) => (match (tyB P e).run, (szB P e).run with
    | some (.int k), some 1 => some (Nat.add 32 (Nat.add (Nat.mul 8 n) (kCode k)))
    | _, _ => none)
  | _ => none
def lookV (ok : Bool) (o : Option AV) (z : AV) : AV := om o (bi ok (tupV [z, bV false]) z) fun v => bi ok (tupV [v, bV true]) v
def lookC (kt : Nat) (z : AV) (ok : Bool) : Box (AV → AV → Hp → Kont → RL) := ⟨fun m k H c =>
  bi (Nat.beq m.tag 12) (bi (Nat.beq (hget H m.p).kind 2) (bi (Nat.beq (hget H m.p).t kt) (bi (keyA kt k) (c H (lookV ok (findE kt k (hget H m.p).cs) z)) (failR 18)) (failR 18)) (failR 18))
    (bi (isNil m 2) (bi (keyA kt k) (c H (lookV ok none z)) (failR 18)) (failR 18))⟩
def mapSet (B : AB) (k v : AV) : AB := om (findE B.t k B.cs) ⟨2, B.t, Nat.succ B.e, appL B.cs [entV B.e k v]⟩ fun _ => ⟨2, B.t, B.e, updE B.t k v B.cs⟩
def mapUpdC (kt : Nat) : Box (AV → AV → AV → Hp → Kont → RL) := ⟨fun m k v H c =>
  bi (Nat.beq m.tag 12) (bi (Nat.beq (hget H m.p).kind 2) (bi (Nat.beq (hget H m.p).t kt) (bi (keyA kt k) (setC H m.p (mapSet (hget H m.p) k v) udV c) (failR 19)) (failR 19)) (failR 19)) (failR 19)⟩
def delC (kt : Nat) : Box (AV → AV → Hp → Kont → RL) := ⟨fun m k H c =>
  bi (Nat.beq m.tag 12) (bi (Nat.beq (hget H m.p).kind 2) (bi (Nat.beq (hget H m.p).t kt) (bi (keyA kt k) (setC H m.p ⟨2, (hget H m.p).t, (hget H m.p).e, delE kt k (hget H m.p).cs⟩ (tupV []) c) (failR 33)) (failR 33)) (failR 33)) (failR 33)⟩
def findN (kt : Nat) (k : AV) (es : List AV) : Nat := List.rec (motive := fun _ => Nat) 0 (fun e _ ih => bi (sameK kt (nthL e.cs 0) k) e.p ih) es
def mapEntC (kt : Nat) (z : AV) : Box (AV → AV → Hp → Kont → RL) := ⟨fun m k H c =>
  bi (Nat.beq m.tag 12) (bi (Nat.beq (hget H m.p).kind 2) (bi (Nat.beq (hget H m.p).t kt) (bi (keyA kt k) (bi (Nat.ble (hget H m.p).e 1000000)
    (om (findE kt k (hget H m.p).cs) (setC H m.p (mapSet (hget H m.p) k z) (tupV [z, mk1 3 (hget H m.p).e]) c)
      fun v => setC H m.p (mapSet (hget H m.p) k v) (tupV [v, mk1 3 (findN kt k (hget H m.p).cs)]) c) (failR 191)) (failR 191)) (failR 191)) (failR 191)) (failR 191)⟩
def setN (n : Nat) (v : AV) (es : List AV) : Option (List AV) := List.rec (motive := fun _ => Option (List AV)) none (fun e t ih => bi (Nat.beq e.p n) (some (entV e.p (nthL e.cs 0) v :: t)) (om ih none fun l => some (e :: l))) es
def entStC : Box (AV → AV → AV → Hp → Kont → RL) := ⟨fun m s v H c =>
  bi (Nat.beq m.tag 12) (bi (Nat.beq (hget H m.p).kind 2) (bi (Nat.beq s.tag 3) (bi (Nat.ble s.p 1000000) (om (setN s.p v (hget H m.p).cs) (failR 192) fun es => setC H m.p ⟨2, (hget H m.p).t, (hget H m.p).e, es⟩ udV c) (failR 192)) (failR 192)) (failR 192)) (failR 192)⟩
def extractC (i : Nat) : Box (AV → Hp → Kont → RL) := ⟨fun v H c => bi (Nat.beq v.tag 16) (bi (Nat.ble (Nat.succ i) (lenL v.cs)) (c H (nthL v.cs i)) (failR 27)) (failR 27)⟩
/-- a walk over a map: kind 3, e the map's clock; cs: the map, the numbers of the entries that have been seen -/
def walkB (m : AV) (e : Nat) (seen : List AV) : AB := ⟨3, 0, e, [m, tupV seen]⟩
def rangeC : Box (AV → Hp → Kont → RL) := ⟨fun m H c => bi (Nat.beq m.tag 12) (bi (Nat.beq (hget H m.p).kind 2) (newC H (walkB m (hget H m.p).e []) ptr0 c) (failR 28))
  (bi (isNil m 2) (newC H (walkB m 0 []) ptr0 c) (failR 28))⟩
def memN (n : Nat) (l : List AV) : Bool := List.rec (motive := fun _ => Bool) false (fun a _ ih => bi (Nat.beq a.p n) true ih) l
def leftE (seen es : List AV) : List AV := List.rec (motive := fun _ => List AV) [] (fun e _ ih => bi (memN e.p seen) ih (e :: ih)) es
def stepsK (it : Nat) (B : AB) (H : Hp) (c : Kont) (l : List AV) : RL :=
  fmL l fun e => setC H it (walkB (nthL B.cs 0) B.e (appL (nthL B.cs 1).cs [mk1 3 e.p])) (tupV [bV true, nthL e.cs 0, nthL e.cs 1]) c
def nextC : Box (AV → Hp → Kont → RL) := ⟨fun v H c => bi (Nat.beq v.tag 10) (bi (Nat.beq v.q 0) ((fun B : AB => bi (Nat.beq B.kind 3)
  (bi (Nat.beq (nthL B.cs 0).tag 17) (c H (tupV [bV false])) (bi (Nat.beq (nthL B.cs 0).tag 12) ((fun M : AB => bi (Nat.beq M.kind 2) (bi (Nat.beq M.e B.e)
    ((fun l : List AV => List.rec (motive := fun _ => RL) (c H (tupV [bV false])) (fun _ _ _ => stepsK v.p B H c l) l) (leftE (nthL B.cs 1).cs M.cs)) (failR 29)) (failR 29)) (hget H (nthL B.cs 0).p)) (failR 29))) (failR 29)) (hget H v.p)) (failR 29)) (failR 29)⟩
def lastN (l : List AV) : Nat := List.rec (motive := fun _ => Nat → Nat) (fun n => n) (fun a _ ih _ => ih a.p) l 0
def findB (n : Nat) (es : List AV) : Option (List AV) := List.rec (motive := fun _ => Option (List AV)) none (fun e _ ih => bi (Nat.beq e.p n) (some e.cs) ih) es
def entryC : Box (AV → Hp → Kont → RL) := ⟨fun v H c => bi (Nat.beq v.tag 10) (bi (Nat.beq v.q 0) ((fun B : AB => bi (Nat.beq B.kind 3)
  (bi (Nat.beq (nthL B.cs 0).tag 12) ((fun M : AB => bi (Nat.beq M.kind 2) (bi (Nat.beq M.e B.e)
    (List.rec (motive := fun _ => RL) (failR 38) (fun _ _ _ => om (findB (lastN (nthL B.cs 1).cs) M.cs) (failR 38) fun l => c H (tupV l)) (nthL B.cs 1).cs) (failR 38)) (failR 38)) (hget H (nthL B.cs 0).p)) (failR 38)) (failR 38)) (hget H v.p)) (failR 38)) (failR 38)⟩

/-! append -/
def strL (p q : Nat) : List AV := Nat.rec (motive := fun _ => List AV) [] (fun i ih => mk1 4 (Nat.mod (Nat.div p (Nat.pow 256 i)) 256) :: ih) q
/-- the new cells and how many elements these are -/
def newsOf (sz : Nat) (u8 : Bool) (H : Hp) (y : AV) : Option (Nat × List AV) :=
  bi (Nat.beq y.tag 11) (bi (Nat.beq (hget H y.p).kind 1) (om (takeL (dropL (hget H y.p).cs y.q) (Nat.mul y.r sz)) none fun l => some (y.r, l)) none)
    (bi (Nat.beq y.tag 17) (bi (Nat.beq y.p 1) (some (0, [])) none) (bi (Nat.beq y.tag 9) (bi u8 (some (y.q, strL y.p y.q)) none) none))
def appNew (sz : Nat) (H : Hp) (cs : List AV) (n : Nat) (c : Kont) : RL := newC H ⟨1, sz, 0, cs⟩ (fun b => slV b 0 n (lbS n)) c
/-- no room is known behind the slice: it is the block's tip, and the block is written to by nobody else from here on -/
def appTip (sz : Nat) (x : AV) (H : Hp) (cs : List AV) (n : Nat) (c : Kont) : RL :=
  bi (Nat.beq x.q 0) (bi (Nat.beq (Nat.mul x.r sz) (lenL (hget H x.p).cs)) (bi (Nat.beq (hget H x.p).e 0) (bi (Nat.beq (hget H x.p).t sz) (setC H x.p noB udV fun H _ => appNew sz H cs n c) (failR 24)) (failR 24)) (failR 24)) (failR 24)
def appSl (sz : Nat) (x : AV) (n : Nat) (new : List AV) (H : Hp) (c : Kont) : RL :=
  bi (Nat.beq (hget H x.p).kind 1)
    (bi (Nat.ble n (capS x.s))
      (om (putC (Nat.add x.q (Nat.mul x.r sz)) new (hget H x.p).cs) (failR 22) fun cs => setC H x.p ⟨1, (hget H x.p).t, (hget H x.p).e, cs⟩ (slV x.p x.q n x.s) c)
      (om (takeL (dropL (hget H x.p).cs x.q) (Nat.mul x.r sz)) (failR 23) fun old => bi (isEx x.s) (appNew sz H (appL old new) n c) (appTip sz x H (appL old new) n c)))
    (failR 25)
def appendC (sz : Nat) (u8 : Bool) : Box (AV → AV → Hp → Kont → RL) := ⟨fun x y H c => om (newsOf sz u8 H y) (failR 21) fun nw =>
  bi (Nat.beq x.tag 11) (bi (Nat.ble (Nat.add x.r nw.1) 100000) (appSl sz x (Nat.add x.r nw.1) nw.2 H c) (failR 26))
    (bi (isNil x 1) (bi (Nat.beq nw.1 0) (c H x) (bi (Nat.ble nw.1 100000) (appNew sz H nw.2 nw.1 c) (failR 26))) (failR 26))⟩
def appendOp (tys : Array TypeId) (x y : Operand) : OpC := match tys[0]?, tys[1]? with
  | some t, some ty => (match (tyB P t).run, (tyB P ty).run with
    | some (.slice _), some (.int _) => badC 20
    | some (.slice e), some _ => om (szB P e).run (badC 20) fun sz => om (btB P e).run (badC 20) fun bt => om (zeB P e).run (badC 20) fun z =>
      bi (bi (Nat.ble bt 1000000) (bi (Nat.ble 1 bt) (Nat.beq (lenL (cellsOf z)) sz) false) false) (.c2 x y (appendC sz (bi (isU8 P e) (Nat.beq sz 1) false))) (badC 20)
    | _, _ => badC 20)
  | _, _ => badC 20
def lenK (n : Nat) (H : Hp) (c : Kont) : RL := bi (Nat.ble n 1000000000) (c H (mk1 3 n)) (failR 31)
def lenC (t : TypeId) : Box (AV → Hp → Kont → RL) := match (tyB P t).run with
  | some .string => ⟨fun v H c => bi (Nat.beq v.tag 9) (lenK v.q H c) (failR 31)⟩
  | some (.slice _) => ⟨fun v H c => bi (Nat.beq v.tag 11) (lenK v.r H c) (bi (isNil v 1) (lenK 0 H c) (bi (Nat.beq v.tag 23) (bi (Nat.beq v.p (Nat.add 32 t)) (c H (mk1 22 0)) (failR 31)) (failR 31)))⟩
  | some (.map _ _) => ⟨fun v H c => bi (Nat.beq v.tag 12) (bi (Nat.beq (hget H v.p).kind 2) (lenK (lenL (hget H v.p).cs) H c) (failR 31)) (bi (isNil v 2) (lenK 0 H c) (failR 31))⟩
  | some (.array n _) => ⟨fun _ H c => lenK n H c⟩
  | some (.pointer p) => (match (tyB P p).run with | some (.array n _) => ⟨fun _ H c => lenK n H c⟩ | _ => ⟨fun _ _ _ => failR 31⟩)
  | _ => ⟨fun _ _ _ => failR 31⟩
def minmaxC (isMax : Bool) (c : Nat) : Box (AV → AV → Hp → Kont → RL) := int2 c ⟨fun a b => mk1 c (bi (Nat.ble (biased c a) (biased c b)) (bi isMax b a) (bi isMax a b))⟩
def min3C (k : Nat) : Box (AV → AV → AV → Hp → Kont → RL) := ⟨fun a b d H c => (minmaxC false k).run a b H fun H v => (minmaxC false k).run v d H c⟩
def builtinOp (b : Builtin) (args : List Operand) (tys : Array TypeId) (ty : TypeId) : OpC := match b, args with
  | .append, [x, y] => appendOp P tys x y
  | .len, [x] => (match tys[0]? with | some t => .c1 x (lenC P t) | none => badC 31)
  | .min, [x, y] => (match (tyB P ty).run with | some (.int k) => .c2 x y (minmaxC false (kCode k)) | _ => badC 32)
  | .max, [x, y] => (match (tyB P ty).run with | some (.int k) => .c2 x y (minmaxC true (kCode k)) | _ => badC 32)
  | .delete, [m, x] => (match tys[0]? with | some t => (match (tyB P t).run with | some (.map kt _) => om (keyTag P kt) (badC 33) fun n => .c2 m x (delC n) | _ => badC 33) | none => badC 33)
  | .min, [x, y, z] => (match (tyB P ty).run with | some (.int k) => .c3 x y z (min3C (kCode k)) | _ => badC 32)
  | _, _ => badC 34
def makeFuncC (f n : Nat) : Box (List AV → Hp → Kont → RL) := ⟨fun vs H c => c H ⟨13, f, n, 0, 0, vs⟩⟩

def opOf (o : Oper) : OpC := match o.op with
  | .move x | .assign x => .c1 x moveC
  | .pick a b d => .c3 a b d pickC
  | .alloc t => om (zeB P t).run (badC 3) fun z => .c0 (allocC z)
  | .box _ x => .c1 x boxC
  | .build t parts => om (zeB P t).run (badC 4) fun z => (match (tyB P t).run with
    | some (.struct fs) => om (fs.toList.mapM fun f => (P.info? f.type).map fun i => (f.offset, i.size)) (badC 4) fun pls => om (placesOf (fun i => pls.toArray[i]?) (parts.toList.map (·.1))) (badC 4) fun pl => .cN (parts.toList.map (·.2)) (buildC pl (cellsOf z))
    | some (.array _ e) => om (szB P e).run (badC 4) fun sz => om (placesOf (fun i => some (i * sz, sz)) (parts.toList.map (·.1))) (badC 4) fun pl => .cN (parts.toList.map (·.2)) (buildC pl (cellsOf z))
    | _ => badC 4)
  | .buildSlice t len parts => (match (tyB P t).run with
    | some (.slice e) => om (szB P e).run (badC 5) fun sz => om (zeB P e).run (badC 5) fun z => om (placesOf (fun i => some (i * sz, sz)) (parts.toList.map (·.1))) (badC 5) fun pl => bi (bi (Nat.ble (Nat.mul len sz) 100000) (Nat.beq (lenL (cellsOf z)) sz) false)
        (.cN (parts.toList.map (·.2)) (buildSliceC pl (repC len (cellsOf z)) len)) (badC 5)
    | _ => badC 5)
  | .load t a => om (tyB P t).run (badC 6) fun _ => om (szB P t).run (badC 6) fun sz => .c1 a (bi (isAggT P t) (loadA sz) load1)
  | .store t a x => om (szB P t).run (badC 7) fun sz => .c2 a x (storeC sz)
  | .nilCheck x => .c1 x nilC
  | .binOp op t x y ty => .c2 x y (binC P op t ty)
  | .unOp op t x => .c1 x (unC P op t)
  | .convert a b x => .c1 x (convC P a b)
  | .makeFunc fn first cap => (match fn with | .func f => .cN (first.toList ++ cap.toList) (makeFuncC f (lenL first.toList)) | _ => badC 36)
  | .makeMap t r => (match r, (tyB P t).run with | none, some (.map kt _) => om (keyTag P kt) (badC 37) fun n => .c0 ⟨fun H c => newC H ⟨2, n, 0, []⟩ (mk1 12) c⟩ | _, _ => badC 37)
  | .makeSlice t l m => (match (tyB P t).run with
    | some (.slice e) => om (szB P e).run (badC 12) fun sz => om (btB P e).run (badC 12) fun bt => om (zeB P e).run (badC 12) fun z => bi (bi (Nat.ble bt 1000000) (Nat.beq (lenL (cellsOf z)) sz) false) (.c2 l m (makeSliceC (cellsOf z))) (badC 12)
    | _ => badC 12)
  | .slice t x lo hi mx => sliceOp P t x lo hi mx
  | .fieldAddr t x f => (match (tyB P t).run with
    | some (.struct fs) => om (fs[f]?) (badC 14) fun fd => om (szB P fd.type).run (badC 14) fun sz => bi (Nat.beq sz 0) (badC 14) (.c1 x (fieldAddrC fd.offset))
    | _ => badC 14)
  | .field t x f => (match (tyB P t).run with
    | some (.struct fs) => om (fs[f]?) (badC 15) fun fd => om (szB P fd.type).run (badC 15) fun sz => om (tyB P fd.type).run (badC 15) fun _ => .c1 x (fieldC (isAggT P fd.type) fd.offset sz)
    | _ => badC 15)
  | .indexAddr t x i => (match (tyB P t).run with
    | some (.slice e) => om (szB P e).run (badC 16) fun sz => .c2 x i (ixSlC sz)
    | some (.array n e) => om (szB P e).run (badC 16) fun sz => .c2 x i (ixArrC n sz)
    | _ => badC 16)
  | .index t x i => (match (tyB P t).run with
    | some .string => .c2 x i ixStrC
    | some (.array n e) => om (szB P e).run (badC 17) fun sz => om (tyB P e).run (badC 17) fun _ => .c2 x i (ixAggC (isAggT P e) n sz)
    | _ => badC 17)
  | .lookup t m k ok => (match (tyB P t).run with
    | some (.map kt e) => om (keyTag P kt) (badC 18) fun n => om (zeB P e).run (badC 18) fun z => .c2 m k (lookC n z ok)
    | _ => badC 18)
  | .mapUpdate t m k x | .insert t m k x => (match (tyB P t).run with
    | some (.map kt _) => om (keyTag P kt) (badC 19) fun n => .c3 m k x (mapUpdC n)
    | _ => badC 19)
  | .mapEntry t m k => (match (tyB P t).run with
    | some (.map kt e) => om (keyTag P kt) (badC 191) fun n => om (zeB P e).run (badC 191) fun z => .c2 m k (mapEntC n z)
    | _ => badC 191)
  | .entryStore _ m s x => .c3 m s x entStC
  | .extract x i => .c1 x (extractC i)
  | .range t x => (match (tyB P t).run with | some (.map _ _) => .c1 x rangeC | _ => badC 28)
  | .next it str => bi str (badC 29) (.c1 it nextC)
  | .entry it => .c1 it entryC
  | .call c => (match c.callee with
    | .value f => .call f c.args.toList
    | .builtin b => builtinOp P b c.args.toList c.argTypes o.type
    | _ => badC 344)
  | _ => badC 35

/-! ### operations, regions, code. N: how many temporaries the frame has -/
def getO (o : Operand) : Box (Fr → AV) := match o with
  | .tmp t => getB t
  | .const v => ⟨fun _ => avOf v⟩
  | .global g => bi (Nat.ble (Nat.succ g) P.globals.size) ⟨fun _ => ptrV g 0⟩ ⟨fun _ => unkV⟩
  | .func f => ⟨fun _ => mk1 13 f⟩
def getsO (l : List Operand) : Box (Fr → List AV) := match l with
  | [] => ⟨fun _ => []⟩
  | o :: l => ⟨fun T => (getO P o).run T :: (getsO l).run T⟩
/-- a value is put down, and on -/
def putK (N : Nat) (d : Option Nat) (k : BR) : Box (Rec → Fr → Kont) := match d with
  | some d => bi (Nat.ble (Nat.succ d) N) ⟨fun r T H v => k.run r ((setB d).run T v) H⟩ ⟨fun _ _ _ _ => failR 41⟩
  | none => ⟨fun r T H _ => k.run r T H⟩
def runC (x : OpC) (kv : Box (Rec → Fr → Kont)) : BR := match x with
  | .c0 f => ⟨fun r T H => f.run H (kv.run r T)⟩
  | .c1 x f => ⟨fun r T H => f.run ((getO P x).run T) H (kv.run r T)⟩
  | .c2 x y f => ⟨fun r T H => f.run ((getO P x).run T) ((getO P y).run T) H (kv.run r T)⟩
  | .c3 x y z f => ⟨fun r T H => f.run ((getO P x).run T) ((getO P y).run T) ((getO P z).run T) H (kv.run r T)⟩
  | .cN xs f => ⟨fun r T H => f.run ((getsO P xs).run T) H (kv.run r T)⟩
  | .call x xs => ⟨fun r T H => fmL (r ((getO P x).run T) ((getsO P xs).run T) H) fun c => bi (Nat.beq c.ok 1) (kv.run r T c.H c.v) (failR c.why)⟩
def opK (N : Nat) (o : Oper) (k : BR) : BR := runC P (opOf P o) (putK N o.dst k)
/-- the operation, if its guard lets it -/
def opG (N : Nat) (all : Array Oper) (o : Oper) (k : BR) : BR := match o.guard with
  | none => opK P N o k
  | some (j, want) => match (all[j]?).bind (·.dst) with
    | some d => bi (Nat.ble (Nat.succ d) N) ⟨fun r T H => bi (Nat.beq ((getB d).run T).tag 8) (bi (Nat.beq ((getB d).run T).p (bi want 1 0)) ((opK P N o k).run r T H) ((putK N o.dst k).run r T H udV)) (bi (Nat.beq ((getB d).run T).tag 19) ((putK N o.dst k).run r T H udV) (failR 40))⟩ ⟨fun _ _ _ => failR 40⟩
    | none => ⟨fun _ _ _ => failR 40⟩
def opsK (N : Nat) (all : Array Oper) (l : List Oper) (k : BR) : BR := match l with
  | [] => k
  | o :: l => opG P N all o (opsK N all l k)

def eqA (n : Nat) : AV → AV → Bool := Nat.rec (motive := fun _ => AV → AV → Bool) (fun _ _ => false)
  (fun _ ih a b => bi (Nat.beq a.tag b.tag) (bi (Nat.beq a.p b.p) (bi (Nat.beq a.q b.q) (bi (Nat.beq a.r b.r) (bi (Nat.beq a.s b.s)
    (List.rec (motive := fun _ => List AV → Bool) (fun l => List.rec (motive := fun _ => Bool) true (fun _ _ _ => false) l) (fun x _ ihl l => List.rec (motive := fun _ => Bool) false (fun y l _ => bi (ih x y) (ihl l) false) l) a.cs b.cs) false) false) false) false) false) n
/-! ### a region whose order is drawn: carried out in one order; after whatever may change the memory, all that could as well be carried out later is carried out again, and must give the same -/
def runD (x : OpC) : Box (Rec → Fr → Hp → Kont → RL) := match x with
  | .c0 f => ⟨fun _ _ H c => f.run H c⟩
  | .c1 x f => ⟨fun _ T H c => f.run ((getO P x).run T) H c⟩
  | .c2 x y f => ⟨fun _ T H c => f.run ((getO P x).run T) ((getO P y).run T) H c⟩
  | .c3 x y z f => ⟨fun _ T H c => f.run ((getO P x).run T) ((getO P y).run T) ((getO P z).run T) H c⟩
  | .cN xs f => ⟨fun _ T H c => f.run ((getsO P xs).run T) H c⟩
  | .call x xs => ⟨fun r T H c => fmL (r ((getO P x).run T) ((getsO P xs).run T) H) fun q => bi (Nat.beq q.ok 1) (c q.H q.v) (failR q.why)⟩
def tmpsO (l : List Operand) : List Nat := match l with
  | [] => []
  | .tmp t :: l => t :: tmpsO l
  | _ :: l => tmpsO l
def opsC (x : OpC) : List Operand := match x with
  | .c0 _ => []
  | .c1 x _ => [x]
  | .c2 x y _ => [x, y]
  | .c3 x y z _ => [x, y, z]
  | .cN xs _ => xs
  | .call x xs => x :: xs
/-- 0: it only looks; 1: it makes a block; 2: it may do more -/
def clsOf (o : Oper) : Nat := match o.op with
  | .move _ | .pick .. | .load .. | .nilCheck _ | .binOp .. | .unOp .. | .convert .. | .makeFunc .. | .slice .. | .fieldAddr .. | .field .. | .indexAddr .. | .index .. | .lookup .. | .extract .. | .build .. => 0
  | .alloc _ | .buildSlice .. | .makeSlice .. => (match o.guard with | none => 1 | some _ => 2)
  | .call c => (match c.callee with | .builtin .len | .builtin .min | .builtin .max => 0 | _ => 2)
  | _ => 2
structure DI where
  i : Nat
  cls : Nat
  d : Nat
  rd : List Nat
  dm : Nat
  ok : Bool
  x : Box (Rec → Fr → Hp → Kont → RL)
def dmOf (l : List Edge) : Nat := match l with
  | [] => 0
  | e :: l => bi (Region.binds .any e) (Nat.lor (Nat.pow 2 e.on) (dmOf l)) (dmOf l)
def dOf (d : Option Nat) : Nat := match d with | some d => d | none => 512
def gdOf (all : Array Oper) (o : Oper) : List Nat := match o.guard with
  | none => []
  | some (j, _) => match (all[j]?).bind (·.dst) with | some d => [d] | none => []
def runG (all : Array Oper) (o : Oper) : Box (Rec → Fr → Hp → Kont → RL) := match o.guard with
  | none => runD P (opOf P o)
  | some (j, want) => match (all[j]?).bind (·.dst) with
    | some d => ⟨fun r T H c => bi (Nat.beq ((getB d).run T).tag 8) (bi (Nat.beq ((getB d).run T).p (bi want 1 0)) ((runD P (opOf P o)).run r T H c) (c H udV)) (bi (Nat.beq ((getB d).run T).tag 19) (c H udV) (failR 40))⟩
    | none => ⟨fun _ _ _ _ => failR 40⟩
def okOf (N : Nat) (all : Array Oper) (o : Oper) : Bool :=
  bi (allL (fun d => Nat.ble (Nat.succ d) N) (gdOf all o)) (match o.dst with | some d => bi (Nat.ble (Nat.succ d) N) (Nat.ble (Nat.succ d) 511) false | none => Nat.beq (clsOf o) 2) false
def diOf (N : Nat) (all : Array Oper) (i : Nat) (o : Oper) : DI := ⟨i, clsOf o, dOf o.dst, appL (gdOf all o) (tmpsO (opsC (opOf P o))), dmOf o.after.toList, okOf N all o, runG P all o⟩
def disOf (N : Nat) (all : Array Oper) (i : Nat) (l : List Oper) : List DI := match l with
  | [] => []
  | o :: l => diOf P N all i o :: disOf N all (Nat.succ i) l
def testB (m i : Nat) : Bool := Nat.beq (Nat.land (Nat.shiftRight m i) 1) 1
def subB (a b : Nat) : Bool := Nat.beq (Nat.land a b) a
def pickD (c dn : Nat) (l : List DI) : Option DI := List.rec (motive := fun _ => Option DI) none (fun a _ ih => bi (Nat.beq a.cls c) (bi (testB dn a.i) ih (bi (subB a.dm dn) (some a) ih)) ih) l
def nextD (dn : Nat) (l : List DI) : Option DI := om (pickD 1 dn l) (om (pickD 0 dn l) (pickD 2 dn l) some) some
def schedD (fuel : Nat) (l : List DI) : Nat → List DI := Nat.rec (motive := fun _ => Nat → List DI) (fun _ => []) (fun _ ih dn => om (nextD dn l) [] fun a => a :: ih (Nat.lor dn (Nat.pow 2 a.i))) fuel
/-- in order, none twice; behind the last that may do more each one hangs on it, or on one behind it; in the end all of them -/
def topoB (full : Nat) (l : List DI) : Nat → Nat → Bool := List.rec (motive := fun _ => Nat → Nat → Bool) (fun dn _ => subB full dn)
  (fun a _ ih dn sn => bi (testB dn a.i) false (bi (subB a.dm dn) (bi (bi (Nat.beq sn 0) true (nb (Nat.beq (Nat.land a.dm sn) 0)))
    (ih (Nat.lor dn (Nat.pow 2 a.i)) (bi (Nat.beq a.cls 2) (Nat.pow 2 a.i) (bi (Nat.beq sn 0) 0 (Nat.lor sn (Nat.pow 2 a.i))))) false) false)) l
def memT (d : Nat) (l : List Nat) : Bool := List.rec (motive := fun _ => Bool) false (fun x _ ih => bi (Nat.beq x d) true ih) l
/-- what a puts down and b reads or puts down -/
def pairB (a b : DI) : Bool := bi (Nat.beq a.d 512) true
  (bi (bi (memT a.d b.rd) (bi (testB b.dm a.i) true (bi (Nat.beq a.cls 2) (bi (testB a.dm b.i) true (Nat.beq a.i b.i)) false)) true) (bi (Nat.beq a.i b.i) true (nb (Nat.beq a.d b.d))) false)
def okD (n : Nat) (l : List DI) : Bool := bi (topoB (Nat.pred (Nat.pow 2 n)) l 0 0) (bi (allL (fun a => bi a.ok (Nat.ble (Nat.succ a.i) n) false) l) (allL (fun a => allL (pairB a) l) l) false) false
/-- of those carried out already (the last one first) whatever only looks and hangs together with none of the numbers E -/
def chk (l : List DI) : Nat → List DI := List.rec (motive := fun _ => Nat → List DI) (fun _ => []) (fun b _ ih E => bi (testB E b.i) (ih (Nat.lor E b.dm)) (bi (Nat.beq b.cls 0) (b :: ih E) (ih E))) l
def recK (l : List DI) : Box (Rec → Fr → Hp → RL → RL) := match l with
  | [] => ⟨fun _ _ _ L => L⟩
  | a :: l => ⟨fun r T H L => a.x.run r T H fun _ v => bi (eqA 20 v ((getB a.d).run T)) ((recK l).run r T H L) (failR 90)⟩
def dgo (k : BR) (done : List DI) (l : List DI) : BR := match l with
  | [] => k
  | a :: l => bi (Nat.beq a.cls 0) ⟨fun r T H => a.x.run r T H fun H v => (dgo k (a :: done) l).run r ((setB a.d).run T v) H⟩
      ⟨fun r T H => a.x.run r T H fun H v => (recK (chk done (bi (Nat.beq a.cls 2) a.dm 0))).run r ((setB a.d).run T v) H ((dgo k (a :: done) l).run r ((setB a.d).run T v) H)⟩
def drawK (N : Nat) (all : Array Oper) (k : BR) : BR :=
  bi (okD all.size (schedD all.size (disOf P N all 0 all.toList) 0)) (dgo k [] (schedD all.size (disOf P N all 0 all.toList) 0)) ⟨fun _ _ _ => failR 51⟩

def loopMax : Nat := 100000
def ontoR (k : BR) (r : Rec) (l : RL) : RL := fmL l fun x => bi (Nat.beq x.tag 0) (k.run r x.T x.H) [x]
def blkR (i : Nat) (k : BR) (r : Rec) (l : RL) : RL := fmL l fun x => bi (bi (Nat.beq x.tag 0) true (bi (Nat.beq x.tag 1) (Nat.beq x.i i) false)) (k.run r x.T x.H) [x]
def loopR (b : Run) (r : Rec) (n : Nat) : Fr → Hp → RL := Nat.rec (motive := fun _ => Fr → Hp → RL) (fun _ _ => failR 98) (fun _ ih T H => fmL (b r T H) fun x => bi (Nat.beq x.tag 0) (ih x.T x.H) [x]) n
def mapI (l : List Nat) : List AV := List.rec (motive := fun _ => List AV) [] (fun d _ ih => mk1 3 d :: ih) l
def mapP (l : List AV) : List Nat := List.rec (motive := fun _ => List Nat) [] (fun a _ ih => a.p :: ih) l
/-- where a loop over a function stands: the function, the way down to it (the last turn first) -/
def pathV (f : Nat) (rp : List Nat) : AV := ⟨0, f, 0, 0, 0, mapI rp⟩
def yldV (b : Nat) : AV := ⟨14, b, 0, 0, 0, []⟩
def endL (k : BR) (r : Rec) (T : Fr) (b : Nat) (H : Hp) : RL := (fun B : AB => bi (Nat.beq B.kind 5) (bi (Nat.beq B.t 1) (failR 61)
  (setC H b ⟨5, 3, B.e, B.cs⟩ udV fun H _ => bi (Nat.beq B.e 0) (k.run r T H) (bi (Nat.beq B.e 1) [⟨2, 0, T, H⟩] [⟨1, Nat.sub B.e 2, T, H⟩]))) (failR 61)) (hget H b)
def loopF (f : Nat) (rp : List Nat) (g : Operand) (k : BR) (r : Rec) (T : Fr) (H : Hp) : RL :=
  newC H ⟨5, 0, 0, [pathV f rp, encF (noMk T)]⟩ yldV fun H' _ => bi (Nat.beq ((getO P g).run T).tag 13) (fmL (r ((getO P g).run T) [yldV H.n] H') fun c => bi (Nat.beq c.ok 1) (endL k r T H.n c.H) (failR c.why)) (failR 62)
/-- inr: in a round of a loop over a function; f, rp: where the code stands -/
def comp (N : Nat) (inr : Bool) (f : Nat) (rp : List Nat) (c : Code) (k : BR) : BR := match c with
  | .skip => k
  | .label _ => k
  | .ret => ⟨fun _ T H => [⟨2, 0, T, H⟩]⟩
  | .exit i => ⟨fun _ T H => [⟨1, i, T, H⟩]⟩
  | .seq a b => comp N inr f (0 :: rp) a (comp N inr f (1 :: rp) b k)
  | .cond c a b => ⟨fun r T H => bi (Nat.beq ((getO P c).run T).tag 8) (bi (Nat.beq ((getO P c).run T).p 1) ((comp N inr f (0 :: rp) a k).run r T H) ((comp N inr f (1 :: rp) b k).run r T H))
      (bi (bi (Nat.beq ((getO P c).run T).tag 23) (Nat.beq ((getO P c).run T).p 1) false) (appL ((comp N inr f (0 :: rp) a k).run r T H) ((comp N inr f (1 :: rp) b k).run r T H)) (failR 50))⟩
  | .block i c => ⟨fun r T H => blkR i k r ((comp N inr f (0 :: rp) c normK).run r T H)⟩
  | .loop c => ⟨fun r T H => loopR (comp N inr f (0 :: rp) c normK).run r loopMax T H⟩
  | .region _ ops draw => bi draw (drawK P N ops k) (opsK P N ops ops.toList k)
  | .scope c => comp N inr f (0 :: rp) c k
  | .rangeFunc g _ _ _ => bi inr ⟨fun r T H => loopF P f rp g k r T H⟩ ⟨fun r T H => newC H ⟨4, 0, 0, []⟩ yldV fun H' _ => loopF P f rp g k r (addMark T H.n) H'⟩
  | _ => ⟨fun _ _ _ => failR 52⟩
/-- down one turn -/
def kidC (d : Nat) (c : Code) : Option Code := match c, d with
  | .seq a _, 0 => some a
  | .seq _ b, 1 => some b
  | .cond _ a _, 0 => some a
  | .cond _ _ b, 1 => some b
  | .block _ c, 0 => some c
  | .loop c, 0 => some c
  | .scope c, 0 => some c
  | .rangeFunc _ _ a _, 0 => some a
  | .rangeFunc _ _ _ b, 1 => some b
  | _, _ => none
def codeAt (c : Code) (rp : List Nat) : Option Code := match rp with
  | [] => some c
  | d :: rp => (codeAt c rp).bind (kidC d)
structure LC where
  ps : List Nat
  as : BR
  body : BR
def loopB (f : Nat) (rp : List Nat) : Box (Option LC) := ⟨match P.funcs[f]? with
  | some fn => (match fn.body with
    | some c => (match codeAt c rp with
      | some (.rangeFunc _ ps as body) => bi (allL (fun p => Nat.ble (Nat.succ p) fn.ntmps) ps.toList) (some ⟨ps.toList, comp P fn.ntmps true f (0 :: rp) as normK, comp P fn.ntmps true f (1 :: rp) body normK⟩) none
      | _ => none)
    | none => none)
  | none => none⟩
def setArgs (i : Nat) (l : List AV) (T : Fr) : Fr := List.rec (motive := fun _ => Nat → Fr → Fr) (fun _ T => T) (fun a _ ih i T => ih (Nat.succ i) ((setB i).run T a)) l i T
def resOneB (x : ResultVar) : Box (Fr → Hp → Option AV) := match x with
  | .tmp t => ⟨fun T _ => some ((getB t).run T)⟩
  | .cell t ty => om (tyB P ty).run ⟨fun _ _ => none⟩ fun _ => om (szB P ty).run ⟨fun _ _ => none⟩ fun sz => bi (isAggT P ty)
      ⟨fun T H => bi (Nat.beq ((getB t).run T).tag 10) (bi (Nat.beq (hget H ((getB t).run T).p).kind 1) (om (takeL (dropL (hget H ((getB t).run T).p).cs ((getB t).run T).q) sz) none fun cs => some (aggV cs)) none) none⟩
      ⟨fun T H => bi (Nat.beq ((getB t).run T).tag 10) (bi (Nat.beq (hget H ((getB t).run T).p).kind 1) ((fun v : AV => bi (Nat.beq v.tag 18) none (some v)) (nthL (hget H ((getB t).run T).p).cs ((getB t).run T).q)) none) none⟩
def resAllB (l : List ResultVar) : Box (Fr → Hp → Option (List AV)) := match l with
  | [] => ⟨fun _ _ => some []⟩
  | x :: l => ⟨fun T H => om ((resOneB P x).run T H) none fun v => om ((resAllB l).run T H) none fun vs => some (v :: vs)⟩
def resultsB (l : List ResultVar) : Box (Fr → Hp → Option AV) := match l with
  | [x] => resOneB P x
  | l => ⟨fun T H => om ((resAllB P l).run T H) none fun vs => some (tupV vs)⟩
/-! ### results that differ by an order alone: each one is copied out behind the memory that was there, and the copies must be the same -/
structure MS where
  v : List AV
  l : List (Nat × AB)
def matL (f : AV → List (Nat × AB) → Option (AV × List (Nat × AB))) (vs : List AV) : List (Nat × AB) → Option MS :=
  List.rec (motive := fun _ => List (Nat × AB) → Option MS) (fun l => some ⟨[], l⟩) (fun v _ ih l => om (f v l) none fun x => om (ih x.2) none fun y => some ⟨x.1 :: y.v, y.l⟩) vs
def matV (H : Hp) (n0 : Nat) (fuel : Nat) : AV → List (Nat × AB) → Option (AV × List (Nat × AB)) :=
  Nat.rec (motive := fun _ => AV → List (Nat × AB) → Option (AV × List (Nat × AB))) (fun _ _ => none) (fun _ ih v l =>
    bi (bi (Nat.ble 10 v.tag) (Nat.ble v.tag 12) false)
      (bi (Nat.ble (Nat.succ v.p) n0) (some (v, l)) ((fun B : AB => bi (bi (Nat.beq B.kind 1) true (Nat.beq B.kind 2)) (om (matL ih B.cs l) none fun y =>
        some (⟨v.tag, Nat.add n0 (lenL y.l), v.q, v.r, v.s, []⟩, appL y.l [(v.p, ⟨B.kind, B.t, B.e, y.v⟩)])) none) (hget H v.p)))
      (bi (bi (Nat.ble 13 v.tag) (Nat.ble v.tag 16) false) (bi (Nat.beq v.tag 14) none (om (matL ih v.cs l) none fun y => some (⟨v.tag, v.p, v.q, v.r, v.s, y.v⟩, y.l))) (bi (Nat.beq v.tag 18) none (some (v, l))))) fuel
def hasN (n : Nat) (l : List (Nat × AB)) : Bool := List.rec (motive := fun _ => Bool) false (fun a _ ih => bi (Nat.beq a.1 n) true ih) l
def nodupN (l : List (Nat × AB)) : Bool := List.rec (motive := fun _ => Bool) true (fun a t ih => bi (hasN a.1 t) false ih) l
def addAll (l : List (Nat × AB)) : Hp → Hp := List.rec (motive := fun _ => Hp → Hp) (fun H => H) (fun a _ ih H => ih (hnew H a.2)) l
def matR (H0 : Hp) (x : CRes) : Option (AV × List (Nat × AB)) := bi (Nat.beq x.ok 1) (om (matV x.H H0.n 20 x.v []) none fun y => bi (nodupN y.2) (some y) none) none
def blkAV (l : List (Nat × AB)) : AV := tupV (List.rec (motive := fun _ => List AV) [] (fun a _ ih => ⟨a.2.kind, a.2.t, a.2.e, 0, 0, a.2.cs⟩ :: ih) l)
def sameM (x : AV × List (Nat × AB)) (y : AV × List (Nat × AB)) : Bool := bi (eqA 20 x.1 y.1) (eqA 20 (blkAV x.2) (blkAV y.2)) false
def mergeR (H0 : Hp) (l : List CRes) : List CRes := List.rec (motive := fun _ => List CRes) (failC 80)
  (fun x t _ => om (matR H0 x) (failC 81) fun m => bi (allL (fun y => om (matR H0 y) false fun m' => sameM m m') t) (bi (Nat.ble (Nat.add H0.n (lenL m.2)) 32766) [⟨1, 0, m.1, addAll m.2 H0⟩] (failC 83)) (failC 82)) l
/-- the memory, what was there not to be written to -/
def lockH (H : Hp) : Hp := ⟨H.t, H.n, H.n⟩
abbrev Native := List AV → Hp → List CRes
structure FC where
  body : BR
  res : Box (Fr → Hp → Option AV)
  nat : Option Native
  mrg : Bool
variable (Nt : Nat → Option Native) (Mg : Nat → Bool)
def funB (f : Nat) : Box (Option FC) := ⟨match P.funcs[f]? with
  | some fn => (match fn.body with | some c => some ⟨comp P fn.ntmps false f [] c normK, resultsB P fn.results.toList, Nt f, Mg f⟩ | none => none)
  | none => none⟩
def tabF : Nd (Nd (Nd (Box (Option FC)))) := ndFun fun i => ndFun fun j => ndFun fun k => funB P Nt Mg (Nat.add (Nat.mul 64 i) (Nat.add (Nat.mul 8 j) k))
def fcOf (f : Nat) : Option FC := bi (Nat.ble 512 f) none (dsel (dsel (dsel (tabF P Nt Mg) (sh f 6)) (sh f 3)) f).run
/-- the blocks for deferred calls are shut -/
def killM (l : List AV) : Hp → Option Hp := List.rec (motive := fun _ => Hp → Option Hp) (fun H => some H) (fun a _ ih H => bi (Nat.ble H.lim a.p) (bi (Nat.beq (hget H a.p).kind 4) (ih (hset H a.p noB)) none) none) l
def retR (fc : FC) (l : RL) : List CRes := fmL l fun x => bi (bi (Nat.beq x.tag 0) true (Nat.beq x.tag 2)) (om (killM (marksT x.T) x.H) (failC 59) fun H => om (fc.res.run x.T H) (failC 54) fun v => [⟨1, 0, v, H⟩]) (failC x.i)
/-- a round of a loop over a function -/
def setPs (ps : List Nat) (args : List AV) (T : Fr) : Fr := List.rec (motive := fun _ => List AV → Fr → Fr) (fun _ T => T) (fun p _ ih args T => List.rec (motive := fun _ => Fr) T (fun a args _ => ih args ((setB p).run T a)) args) ps args T
def endR (b : Nat) (x : Res) : List CRes := (fun B : AB => bi (Nat.beq B.kind 5) (bi (Nat.ble x.H.lim b)
  (bi (Nat.beq x.tag 0) [⟨1, 0, bV true, hset x.H b ⟨5, 0, 0, B.cs⟩⟩] (bi (Nat.beq x.tag 1) [⟨1, 0, bV false, hset x.H b ⟨5, 2, Nat.add x.i 2, B.cs⟩⟩] (bi (Nat.beq x.tag 2) [⟨1, 0, bV false, hset x.H b ⟨5, 2, 1, B.cs⟩⟩] (failC x.i)))) (failC 63)) (failC 63)) (hget x.H b)
def begR (r : Rec) (body : BR) (b : Nat) (x : Res) : List CRes := (fun B : AB => bi (Nat.beq x.tag 0) (bi (Nat.beq B.kind 5) (bi (Nat.beq B.t 0) (bi (Nat.ble x.H.lim b)
  (fmL (body.run r x.T (hset x.H b ⟨5, 1, B.e, B.cs⟩)) fun y => endR b y) (failC 64)) (failC 64)) (failC 64)) (failC x.i)) (hget x.H b)
def yieldR (r : Rec) (b : Nat) (args : List AV) (H : Hp) : List CRes := (fun B : AB => bi (Nat.beq B.kind 5)
  (om (loopB P (nthL B.cs 0).p (mapP (nthL B.cs 0).cs)).run (failC 65) fun lc => bi (Nat.beq (lenL args) (lenL lc.ps))
    (fmL (lc.as.run r (setPs lc.ps args (decF (nthL B.cs 1))) H) fun x => begR r lc.body b x) (failC 65)) (failC 65)) (hget H b)
def bodyR (fc : FC) (r : Rec) (l : List AV) (H : Hp) : List CRes := retR fc (fc.body.run r (setArgs 0 l noFr) H)
def callR (fc : FC) (r : Rec) (l : List AV) (H : Hp) : List CRes := om fc.nat (bi fc.mrg (mergeR H (bodyR fc r l (lockH H))) (bodyR fc r l H)) fun g => g l H
def applyR (r : Rec) : Rec := fun v args H => bi (Nat.beq v.tag 14) (yieldR P r v.p args H)
  (bi (Nat.beq v.tag 13) (om (takeL v.cs v.q) (failC 57) fun fs => om (fcOf P Nt Mg v.p) (failC 56) fun fc => callR fc r (appL fs (appL args (dropL v.cs v.q))) H) (failC 60))
def evN (n : Nat) : Rec := Nat.rec (motive := fun _ => Rec) (fun _ _ _ => failC 99) (fun _ ih => applyR P Nt Mg ih) n
end
end
end Go.Eng
