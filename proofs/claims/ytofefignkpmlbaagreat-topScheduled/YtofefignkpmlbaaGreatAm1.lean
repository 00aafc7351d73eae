/- An abstract machine for Go code and its soundness over the model; no condition of its own. Used by the proof that the law TopScheduled returns true at every input. -/
import Derived.Control
/- An abstract machine: values, memory, code; its evaluator. -/
namespace Go.Am

inductive Pos where
  | H
  | O (p : Pos)
  | I (p : Pos)
  deriving DecidableEq, Inhabited, Repr

def Pos.succ : Pos → Pos
  | .H => .O .H
  | .O p => .I p
  | .I p => .O p.succ

def Pos.nat : Pos → Nat
  | .H => 1
  | .O p => 2 * p.nat
  | .I p => 2 * p.nat + 1

def Pos.idx (p : Pos) : Nat := p.nat - 1

def Pos.ofNatF : Nat → Nat → Pos
  | 0, _ => .H
  | k + 1, n => if n ≤ 1 then .H else if n % 2 = 0 then .O (ofNatF k (n / 2)) else .I (ofNatF k (n / 2))

def Pos.ofIdx (n : Nat) : Pos := ofNatF 24 (n + 1)

def Pos.beq : Pos → Pos → Bool
  | .H, .H => true
  | .O p, .O q => p.beq q
  | .I p, .I q => p.beq q
  | _, _ => false

inductive PT (α : Type) where
  | E
  | N (l : PT α) (o : Option α) (r : PT α)
  deriving Inhabited

def PT.get {α : Type} : Pos → PT α → Option α
  | _, .E => none
  | .H, .N _ o _ => o
  | .O p, .N l _ _ => PT.get p l
  | .I p, .N _ _ r => PT.get p r

def PT.set {α : Type} : Pos → α → PT α → PT α
  | .H, v, .E => .N .E (some v) .E
  | .H, v, .N l _ r => .N l (some v) r
  | .O p, v, .E => .N (PT.set p v .E) none .E
  | .O p, v, .N l o r => .N (PT.set p v l) o r
  | .I p, v, .E => .N .E none (PT.set p v .E)
  | .I p, v, .N l o r => .N l o (PT.set p v r)

def PT.rem {α : Type} : Pos → PT α → PT α
  | _, .E => .E
  | .H, .N l _ r => .N l none r
  | .O p, .N l o r => .N (PT.rem p l) o r
  | .I p, .N l o r => .N l o (PT.rem p r)

/-- How much room a slice has: so many elements, or one does not know, of so many cells each. -/
inductive Cap where
  | o (esz : Nat)
  | c (n : Nat)
  deriving Inhabited, DecidableEq

/-- A value. -/
inductive AV where
  | undef
  | bool (b : Bool)
  | int (k : IntKind) (n : Int)
  | str (s : List Nat)
  | strz (n : Nat)
  | nilptr
  | ptr (b : Pos) (off : Nat)
  | nilslice
  | slice (b : Pos) (off len : Nat) (cap : Cap)
  | nilmap
  | map (b : Pos)
  | nilfn
  | fn (f : Pos) (first captured : List AV)
  | yield (l : Pos)
  | niliface
  | iface (t : TypeId) (v : AV)
  | agg (cs : List AV)
  | tup (vs : List AV)
  deriving Inhabited

inductive AArg where
  | t (p : Pos)
  | c (v : AV)
  deriving Inhabited

/-- Of which kind two values are that are compared. -/
inductive EqK where
  | int | bool | str | ptr | slice | map | func | iface
  deriving Inhabited, Repr, DecidableEq

inductive ABin where
  | add | sub | mul | quo | rem
  | and | or | xor | andNot | shl | shr
  | lss | leq | gtr | geq
  | eq (q : EqK) | ne (q : EqK)
  deriving Inhabited, Repr

inductive AOp where
  | move (x : AArg)
  | pick (c a b : AArg)
  | alloc (zero : List AV)
  | box (x : AArg)
  | build (zero : List AV) (parts : List (Nat × Nat × AArg))
  | buildSlice (cells : List AV) (len : Nat) (parts : List (Nat × Nat × AArg))
  | insert (q : EqK) (m k v : AArg)
  | load (n : Option Nat) (a : AArg)
  | store (n : Option Nat) (a v : AArg)
  | nilCheck (x : AArg)
  | bin (b : ABin) (x y : AArg)
  | not (x : AArg)
  | neg (x : AArg)
  | conv (k : IntKind) (x : AArg)
  | toStr (x : AArg)
  | mkfn (f : Pos) (first captured : List AArg)
  | mkiface (t : TypeId) (x : AArg)
  | mkmap (q : EqK)
  | mkslice (zero : List AV) (l c : AArg)
  | sliceStr (x : AArg) (lo hi : Option AArg)
  | sliceSl (size : Nat) (x : AArg) (lo hi mx : Option AArg)
  | sliceArr (n size : Nat) (x : AArg) (lo hi mx : Option AArg)
  | fieldAddr (off : Nat) (x : AArg)
  | field (off : Nat) (n : Option Nat) (x : AArg)
  | indexArr (len size : Nat) (x i : AArg)
  | indexSl (size : Nat) (x i : AArg)
  | index (len size : Nat) (n : Option Nat) (x i : AArg)
  | indexStr (x i : AArg)
  | lookup (q : EqK) (zero : AV) (commaOk : Bool) (m k : AArg)
  | extract (i : Nat) (x : AArg)
  | call (f : Pos) (args : List AArg)
  | callv (x : AArg) (args : List AArg)
  | indexByte (x c : AArg)
  | append (size : Nat) (x y : AArg)
  | lenStr (x : AArg)
  | lenSl (x : AArg)
  | lenMap (x : AArg)
  | lenC (n : Nat) (x : AArg)
  | delete (q : EqK) (m k : AArg)
  | recover
  | copy (size : Nat) (x y : AArg)
  | min (x y : AArg)
  | max (x y : AArg)
  | eqA (neg : Bool) (x y : AArg)
  | defer (x : AArg) (args : List AArg)
  | bad
  deriving Inhabited

/-- Does an operation go by other functions? -/
def AOp.calls : AOp → Bool
  | .call _ _ | .callv _ _ | .recover | .defer _ _ | .bad => true
  | _ => false

structure AOper where
  dst : Option Pos
  guard : Option (Pos × Bool)
  op : AOp
  deriving Inhabited

/-- What an operation of a region that draws its order does: nothing to memory (v); it makes a block (a); it reads (r: so many of those that write before it may run behind it, too); it writes, or calls (e); it lays an entry into a map that the region makes (i). -/
inductive DCls where
  | v
  | a
  | r (k : Nat)
  | e
  | i
  deriving Inhabited

structure DItem where
  ix : Nat
  cls : DCls
  o : AOper
  deriving Inhabited

inductive ACode where
  | skip
  | region (ops : List AOper)
  | drawn (items : List DItem)
  | seq (a b : ACode)
  | cond (c : AArg) (a b : ACode)
  | block (id : Nat) (c : ACode)
  | loop (c : ACode)
  | rangeFunc (f : AArg) (params : List Pos) (assign body : ACode)
  | exit (id : Nat)
  | scope (c : ACode)
  | ret
  deriving Inhabited

inductive AExit where
  | normal
  | exit (id : Nat)
  | ret
  deriving Inhabited, DecidableEq

inductive ADef where
  | collected (b : Pos)
  | call (f : Pos) (args : List AV)
  deriving Inhabited

inductive AObj where
  | cells (cs : List AV) (spare : Option Nat)
  | rep (n : Nat) (v : AV)
  | map (q : EqK) (es : List (AV × AV))
  | loop (st : LoopState) (pending : AExit) (tmps : PT AV) (params : List Pos) (assign body : ACode) (defers : Pos)
  | deferred
  deriving Inhabited

structure Heap where
  t : PT AObj
  next : Pos
  deriving Inhabited

inductive ARes where
  | tmp (p : Pos)
  | cell (p : Pos) (n : Option Nat)
  deriving Inhabited

structure AFunc where
  results : List ARes
  body : ACode
  deriving Inhabited

inductive R (α : Type) where
  | ok (a : α) (h : Heap)
  | no (why : Nat)
  deriving Inhabited

structure Env where
  tmps : PT AV
  defers : List ADef
  round : Option Pos
  deriving Inhabited

structure Rec where
  call : Pos → List AV → Heap → R AV
  yield : Pos → List AV → Heap → R AV
  loop : ACode → Env → Heap → R (AExit × Env)

def val (env : PT AV) : AArg → AV
  | .t p => match env.get p with
    | some v => v
    | none => .undef
  | .c v => v

def vals (env : PT AV) : List AArg → List AV
  | [] => []
  | x :: l => val env x :: vals env l

def nth : List AV → Nat → Option AV
  | [], _ => none
  | v :: _, 0 => some v
  | _ :: l, n + 1 => nth l n

def takeX : List AV → Nat → Option (List AV)
  | _, 0 => some []
  | [], _ + 1 => none
  | v :: l, n + 1 => match takeX l n with
    | some r => some (v :: r)
    | none => none

def dropX : List AV → Nat → List AV
  | l, 0 => l
  | [], _ + 1 => []
  | _ :: l, n + 1 => dropX l n

/-- The cells from a place on overwritten; none: they do not fit. -/
def over : List AV → List AV → Option (List AV)
  | [], l => some l
  | _ :: _, [] => none
  | v :: vs, _ :: l => match over vs l with
    | some r => some (v :: r)
    | none => none

def writeAt : Nat → List AV → List AV → Option (List AV)
  | 0, vs, l => over vs l
  | _ + 1, _, [] => none
  | n + 1, vs, x :: l => match writeAt n vs l with
    | some r => some (x :: r)
    | none => none

def AV.isCell : AV → Bool
  | .agg _ | .tup _ | .undef => false
  | _ => true

def allCells : List AV → Bool
  | [] => true
  | v :: l => match v.isCell with
    | true => allCells l
    | false => false

def AV.cells : AV → List AV
  | .agg cs => cs
  | v => [v]

def len : List AV → Nat → Nat
  | [], n => n
  | _ :: l, n => len l (n + 1)

def ltI : Int → Int → Bool
  | .ofNat a, .ofNat b => Nat.blt a b
  | .ofNat _, .negSucc _ => false
  | .negSucc _, .ofNat _ => true
  | .negSucc a, .negSucc b => Nat.blt b a

def eqI : Int → Int → Bool
  | .ofNat a, .ofNat b => Nat.beq a b
  | .negSucc a, .negSucc b => Nat.beq a b
  | _, _ => false

def eqStr : List Nat → List Nat → Bool
  | [], [] => true
  | a :: l, b :: r => match Nat.beq a b with
    | true => eqStr l r
    | false => false
  | _, _ => false

def eqKind : IntKind → IntKind → Bool
  | .i8, .i8 | .i16, .i16 | .i32, .i32 | .i64, .i64 | .u8, .u8 | .u16, .u16 | .u32, .u32 | .u64, .u64 => true
  | _, _ => false

def eqBool : Bool → Bool → Bool
  | true, true | false, false => true
  | _, _ => false

def eqEqK : EqK → EqK → Bool
  | .int, .int | .bool, .bool | .str, .str | .ptr, .ptr | .slice, .slice | .map, .map | .func, .func | .iface, .iface => true
  | _, _ => false

/-- Are two values of a kind the same? none: not known here. -/
def same : EqK → AV → AV → Option Bool
  | .bool, .bool a, .bool b => some (eqBool a b)
  | .int, .int j a, .int k b => match eqKind j k with
    | true => some (eqI a b)
    | false => none
  | .str, .str a, .str b => some (eqStr a b)
  | .ptr, .nilptr, .nilptr => some true
  | .ptr, .nilptr, .ptr _ _ => some false
  | .ptr, .ptr _ _, .nilptr => some false
  | .slice, .nilslice, .nilslice => some true
  | .slice, .slice _ _ _ _, .nilslice => some false
  | .map, .nilmap, .nilmap => some true
  | .map, .map _, .nilmap => some false
  | .func, .nilfn, .nilfn => some true
  | .func, .fn _ _ _, .nilfn => some false
  | .func, .yield _, .nilfn => some false
  | .iface, .niliface, .niliface => some true
  | .iface, .iface _ _, .niliface => some false
  | _, _, _ => none

/-- Two rows of scalars, one by one. -/
def sameAll : List AV → List AV → Option Bool
  | [], [] => some true
  | .int j a :: l, .int k b :: r => match eqKind j k with
    | true => match eqI a b with
      | true => sameAll l r
      | false => some false
    | false => none
  | .bool a :: l, .bool b :: r => match eqBool a b with
    | true => sameAll l r
    | false => some false
  | _, _ => none

def boolV (b : Option Bool) (neg : Bool) (h : Heap) : R AV :=
  match b with
  | some b => .ok (.bool (match neg with | true => b.not | false => b)) h
  | none => .no 1

def wrapI (k : IntKind) (n : Int) : Int :=
  match n with
  | .ofNat m => match Nat.blt m (match k with | .i8 => 128 | .i16 => 32768 | .i32 => 2147483648 | .i64 => 9223372036854775808 | .u8 => 256 | .u16 => 65536 | .u32 => 4294967296 | .u64 => 18446744073709551616) with
    | true => .ofNat m
    | false => k.wrap n
  | n => k.wrap n

/-- The bits of two numbers. -/
def bits (b : ABin) (k : IntKind) (x y : Int) : Option Int :=
  match b with
  | .and => some (k.wrap (BitVec.ofInt k.bits x &&& BitVec.ofInt k.bits y).toNat)
  | .or => some (k.wrap (BitVec.ofInt k.bits x ||| BitVec.ofInt k.bits y).toNat)
  | .xor => some (k.wrap (BitVec.ofInt k.bits x ^^^ BitVec.ofInt k.bits y).toNat)
  | .andNot => some (k.wrap (BitVec.ofInt k.bits x &&& ~~~ BitVec.ofInt k.bits y).toNat)
  | _ => none

def binI (b : ABin) (j : IntKind) (x : Int) (k : IntKind) (y : Int) : Option AV :=
  match b with
  | .shl => match ltI y 0 with
    | true => none
    | false => some (.int j (wrapI j (x * 2 ^ (min y.toNat j.bits))))
  | .shr => match ltI y 0 with
    | true => none
    | false => some (.int j (x.fdiv (2 ^ (min y.toNat j.bits))))
  | b => match eqKind j k with
    | false => none
    | true => match b with
      | .add => some (.int j (wrapI j (x + y)))
      | .sub => some (.int j (wrapI j (x - y)))
      | .mul => some (.int j (wrapI j (x * y)))
      | .quo => match eqI y 0 with
        | true => none
        | false => some (.int j (wrapI j (x.tdiv y)))
      | .rem => match eqI y 0 with
        | true => none
        | false => some (.int j (x.tmod y))
      | .lss => some (.bool (ltI x y))
      | .leq => some (.bool (ltI y x).not)
      | .gtr => some (.bool (ltI y x))
      | .geq => some (.bool (ltI x y).not)
      | b => match bits b j x y with
        | some n => some (.int j n)
        | none => none

def bin (b : ABin) (x y : AV) (h : Heap) : R AV :=
  match b with
  | .eq q => boolV (same q x y) false h
  | .ne q => boolV (same q x y) true h
  | b => match x, y with
    | .int j x, .int k y => match binI b j x k y with
      | some v => .ok v h
      | none => .no 2
    | .str x, .str y => match b with
      | .add => match Nat.ble (x.length + y.length) 1000000000 with
        | true => .ok (.str (x ++ y)) h
        | false => .no 3
      | _ => .no 4
    | _, _ => .no 6

/-- The parts laid into the cells. -/
def fillA (env : PT AV) : List (Nat × Nat × AArg) → List AV → Option (List AV)
  | [], l => some l
  | (off, size, x) :: ps, l =>
    match val env x with
    | .undef => none
    | a => match Nat.beq (len a.cells 0) size with
      | true => match writeAt off a.cells l with
        | some l' => fillA env ps l'
        | none => none
      | false => none

def newObj (o : AObj) (h : Heap) : Pos × Heap := (h.next, ⟨h.t.set h.next o, h.next.succ⟩)

def alloc (cs : List AV) (sp : Option Nat) (k : Pos → AV) (h : Heap) : R AV :=
  .ok (k h.next) ⟨h.t.set h.next (.cells cs sp), h.next.succ⟩

def findKey (q : EqK) (k : AV) : List (AV × AV) → Option (Option AV)
  | [] => some none
  | (k', v) :: es => match same q k k' with
    | some true => some (some v)
    | some false => findKey q k es
    | none => none

def setKey (q : EqK) (k v : AV) : List (AV × AV) → Option (List (AV × AV))
  | [] => some [(k, v)]
  | (k', v') :: es => match same q k k' with
    | some true => some ((k', v) :: es)
    | some false => match setKey q k v es with
      | some r => some ((k', v') :: r)
      | none => none
    | none => none

def delKey (q : EqK) (k : AV) : List (AV × AV) → Option (List (AV × AV))
  | [] => some []
  | (k', v') :: es => match same q k k' with
    | some true => some es
    | some false => match delKey q k es with
      | some r => some ((k', v') :: r)
      | none => none
    | none => none

def bytesOf : List AV → Option (List Nat)
  | [] => some []
  | .int .u8 (.ofNat n) :: l => match Nat.blt n 256, bytesOf l with
    | true, some r => some (n :: r)
    | _, _ => none
  | _ => none

/-- Bounds of a slice expression: low, high, max. -/
def bound (x : Option AV) (dflt : Nat) (most : Nat) : Option Nat :=
  match x with
  | none => some dflt
  | some (.int _ (.ofNat n)) => match Nat.ble n most with
    | true => some n
    | false => none
  | _ => none

def optVal (env : PT AV) : Option AArg → Option AV
  | none => none
  | some x => some (val env x)

/-- So many elements at most are grown to. -/
def growMost : Nat := 1073741824

def appendA (size : Nat) (x : AV) (n : Nat) (new : List AV) (h : Heap) : R AV :=
  match x with
  | .nilslice => match n with
    | 0 => .ok .nilslice h
    | _ + 1 => match Nat.ble n growMost with
      | true => alloc new (some size) (fun b => .slice b 0 n (.o size)) h
      | false => .no 9
  | .slice b off l cap =>
    match h.t.get b with
    | some (.cells cs sp) =>
      match cap with
      | .c c =>
        match Nat.ble (l + n) c with
        | true => match writeAt (off + l * size) new cs with
          | some cs' => .ok (.slice b off (l + n) (.c c)) ⟨h.t.set b (.cells cs' sp), h.next⟩
          | none => .no 10
        | false => match takeX (dropX cs off) (l * size), Nat.ble (l + n) growMost with
          | some old, true => alloc (old ++ new) (some size) (fun b' => .slice b' 0 (l + n) (.o size)) h
          | _, _ => .no 11
      | .o esz =>
        match n with
        | 0 => .ok (.slice b off l (.o esz)) h
        | _ + 1 => match Nat.beq (off + l * size) (len cs 0), Nat.beq esz size, sp, Nat.ble (l + n) growMost with
          | true, true, some _, true => alloc (dropX cs off ++ new) (some size) (fun b' => .slice b' 0 (l + n) (.o size)) ⟨h.t.rem b, h.next⟩
          | _, _, _, _ => .no 12
    | _ => .no 13
  | _ => .no 14

def lenOfSlice : AV → Option Nat
  | .nilslice => some 0
  | .slice _ _ l _ => some l
  | _ => none

def cellsOfSlice (size : Nat) (h : Heap) : AV → Option (List AV)
  | .nilslice => some []
  | .slice b off l _ => match h.t.get b with
    | some (.cells cs _) => takeX (dropX cs off) (l * size)
    | _ => none
  | _ => none

def idxOf (c : Nat) : List Nat → Nat → Int
  | [], _ => -1
  | a :: l, i => match Nat.beq a c with
    | true => .ofNat i
    | false => idxOf c l (i + 1)

def cellsN : Option Nat → Nat
  | none => 1
  | some k => k

/-- A value that was looked for, and, if that is asked, whether it is there. -/
def withOk (c : Bool) (x : AV) (b : Bool) : AV :=
  match c with
  | true => .tup [x, .bool b]
  | false => x

def evalOp (r : Rec) (env : Env) (h : Heap) : AOp → R AV
  | .move x => .ok (val env.tmps x) h
  | .pick c a b => match val env.tmps c with
    | .bool true => .ok (val env.tmps a) h
    | .bool false => .ok (val env.tmps b) h
    | _ => .no 20
  | .alloc zero => alloc zero none (fun b => .ptr b 0) h
  | .box x => match val env.tmps x with
    | .undef => .no 19
    | a => alloc a.cells none (fun b => .ptr b 0) h
  | .build zero parts => match fillA env.tmps parts zero with
    | some l => .ok (.agg l) h
    | none => .no 21
  | .buildSlice cells n parts => match fillA env.tmps parts cells with
    | some l => alloc l none (fun b => .slice b 0 n (.c n)) h
    | none => .no 22
  | .insert q m k v => match val env.tmps m with
    | .map b => match h.t.get b with
      | some (.map q' es) => match eqEqK q q', setKey q (val env.tmps k) (val env.tmps v) es with
        | true, some es' => .ok (.tup []) ⟨h.t.set b (.map q es'), h.next⟩
        | _, _ => .no 23
      | _ => .no 24
    | _ => .no 25
  | .load n a => match val env.tmps a with
    | .ptr b off => match h.t.get b with
      | some (.cells cs _) => match n with
        | none => match nth cs off with
          | some v => .ok v h
          | none => .no 26
        | some k => match takeX (dropX cs off) k with
          | some l => .ok (.agg l) h
          | none => .no 27
      | _ => .no 28
    | _ => .no 29
  | .store n a v => match val env.tmps a with
    | .ptr b off => match h.t.get b with
      | some (.cells cs sp) =>
        let vs := (val env.tmps v).cells
        match Nat.beq (len vs 0) (cellsN n), allCells vs with
        | true, true => match writeAt off vs cs with
          | some cs' => .ok (.tup []) ⟨h.t.set b (.cells cs' sp), h.next⟩
          | none => .no 30
        | _, _ => .no 31
      | _ => .no 32
    | _ => .no 33
  | .nilCheck x => match val env.tmps x with
    | .ptr b off => .ok (.ptr b off) h
    | .fn f a b => .ok (.fn f a b) h
    | .yield l => .ok (.yield l) h
    | _ => .no 34
  | .bin b x y => bin b (val env.tmps x) (val env.tmps y) h
  | .not x => match val env.tmps x with
    | .bool b => .ok (.bool b.not) h
    | _ => .no 35
  | .neg x => match val env.tmps x with
    | .int k n => .ok (.int k (wrapI k (0 - n))) h
    | _ => .no 36
  | .conv k x => match val env.tmps x with
    | .int _ n => .ok (.int k (wrapI k n)) h
    | _ => .no 37
  | .toStr x => match val env.tmps x with
    | .nilslice => .ok (.str []) h
    | .slice b off l _ => match h.t.get b with
      | some (.cells cs _) => match takeX (dropX cs off) l with
        | some vs => match bytesOf vs with
          | some s => .ok (.str s) h
          | none => .no 38
        | none => .no 39
      | some (.rep n (.int .u8 (.ofNat 0))) => match Nat.ble (off + l) n with
        | true => .ok (.strz l) h
        | false => .no 40
      | _ => .no 41
    | _ => .no 42
  | .mkfn f a b => .ok (.fn f (vals env.tmps a) (vals env.tmps b)) h
  | .mkiface t x => .ok (.iface t (val env.tmps x)) h
  | .mkmap q => .ok (.map h.next) ⟨h.t.set h.next (.map q []), h.next.succ⟩
  | .mkslice zero l c => match val env.tmps l, val env.tmps c with
    | .int .i64 (.ofNat l), .int .i64 (.ofNat c) =>
      match Nat.ble l c, Nat.ble c 1000000 with
      | true, true => match zero with
        | [z] => match Nat.blt c 1000 with
          | true => alloc (List.replicate c z) none (fun b => .slice b 0 l (.c c)) h
          | false => .ok (.slice h.next 0 l (.c c)) ⟨h.t.set h.next (.rep c z), h.next.succ⟩
        | zs => match Nat.blt c 1000 with
          | true => alloc (List.replicate c zs).flatten none (fun b => .slice b 0 l (.c c)) h
          | false => .no 43
      | _, _ => .no 44
    | _, _ => .no 45
  | .sliceStr x lo hi => match val env.tmps x with
    | .str s =>
      let n := s.length
      match bound (optVal env.tmps hi) n n with
      | some hi => match bound (optVal env.tmps lo) 0 hi with
        | some lo => .ok (.str ((s.take hi).drop lo)) h
        | none => .no 46
      | none => .no 47
    | _ => .no 48
  | .sliceSl size x lo hi mx => match val env.tmps x with
    | .nilslice =>
      match bound (optVal env.tmps mx) 0 0, bound (optVal env.tmps hi) 0 0, bound (optVal env.tmps lo) 0 0 with
      | some _, some _, some _ => .ok .nilslice h
      | _, _, _ => .no 49
    | .slice b off l cap =>
      match cap with
      | .c c =>
        match bound (optVal env.tmps mx) c c with
        | some m => match bound (optVal env.tmps hi) l m with
          | some hi => match bound (optVal env.tmps lo) 0 hi with
            | some lo => .ok (.slice b (off + lo * size) (hi - lo) (.c (m - lo))) h
            | none => .no 50
          | none => .no 51
        | none => .no 52
      | .o esz =>
        match bound (optVal env.tmps mx) l l with
        | some m => match bound (optVal env.tmps hi) l m with
          | some hi => match bound (optVal env.tmps lo) 0 hi with
            | some lo => match mx with
              | some _ => .ok (.slice b (off + lo * size) (hi - lo) (.c (m - lo))) h
              | none => match Nat.beq esz size with
                | true => .ok (.slice b (off + lo * size) (hi - lo) (.o esz)) h
                | false => .no 53
            | none => .no 54
          | none => .no 55
        | none => .no 56
    | _ => .no 57
  | .sliceArr n size x lo hi mx => match val env.tmps x with
    | .ptr b off =>
      match bound (optVal env.tmps mx) n n with
      | some m => match bound (optVal env.tmps hi) n m with
        | some hi => match bound (optVal env.tmps lo) 0 hi with
          | some lo => .ok (.slice b (off + lo * size) (hi - lo) (.c (m - lo))) h
          | none => .no 58
        | none => .no 59
      | none => .no 60
    | _ => .no 61
  | .fieldAddr off x => match val env.tmps x with
    | .ptr b o => .ok (.ptr b (o + off)) h
    | _ => .no 62
  | .field off n x => match val env.tmps x with
    | .agg cs => match n with
      | none => match nth cs off with
        | some v => .ok v h
        | none => .no 63
      | some k => match takeX (dropX cs off) k with
        | some l => .ok (.agg l) h
        | none => .no 64
    | _ => .no 65
  | .indexArr n size x i => match val env.tmps x, val env.tmps i with
    | .ptr b o, .int _ (.ofNat i) => match Nat.blt i n with
      | true => .ok (.ptr b (o + i * size)) h
      | false => .no 66
    | _, _ => .no 67
  | .indexSl size x i => match val env.tmps x, val env.tmps i with
    | .slice b o l _, .int _ (.ofNat i) => match Nat.blt i l with
      | true => .ok (.ptr b (o + i * size)) h
      | false => .no 68
    | _, _ => .no 69
  | .index len size n x i => match val env.tmps x, val env.tmps i with
    | .agg cs, .int _ (.ofNat i) => match Nat.blt i len with
      | true => match n with
        | none => match nth cs (i * size) with
          | some v => .ok v h
          | none => .no 70
        | some k => match takeX (dropX cs (i * size)) k with
          | some l => .ok (.agg l) h
          | none => .no 71
      | false => .no 72
    | _, _ => .no 73
  | .indexStr x i => match val env.tmps x, val env.tmps i with
    | .str s, .int _ (.ofNat i) => match s[i]? with
      | some c => .ok (.int .u8 (.ofNat c)) h
      | none => .no 74
    | .strz n, .int _ (.ofNat i) => match Nat.blt i n with
      | true => .ok (.int .u8 0) h
      | false => .no 75
    | _, _ => .no 76
  | .lookup q zero ok m k => match val env.tmps m with
    | .nilmap => .ok (withOk ok zero false) h
    | .map b => match h.t.get b with
      | some (.map q' es) => match eqEqK q q', findKey q (val env.tmps k) es with
        | true, some (some v) => .ok (withOk ok v true) h
        | true, some none => .ok (withOk ok zero false) h
        | _, _ => .no 77
      | _ => .no 78
    | _ => .no 79
  | .extract i x => match val env.tmps x with
    | .tup vs => match nth vs i with
      | some v => .ok v h
      | none => .no 80
    | _ => .no 81
  | .call f args => r.call f (vals env.tmps args) h
  | .callv x args => match val env.tmps x with
    | .fn f first captured => r.call f (first ++ vals env.tmps args ++ captured) h
    | .yield l => r.yield l (vals env.tmps args) h
    | _ => .no 82
  | .indexByte x c => match val env.tmps x, val env.tmps c with
    | .str s, .int .u8 (.ofNat c) => match Nat.blt c 256 with
      | true => .ok (.int .i64 (idxOf c s 0)) h
      | false => .no 7
    | _, _ => .no 83
  | .append size x y =>
    match lenOfSlice (val env.tmps y), cellsOfSlice size h (val env.tmps y) with
    | some n, some new => match allCells new with
      | true => appendA size (val env.tmps x) n new h
      | false => .no 8
    | _, _ => .no 84
  | .lenStr x => match val env.tmps x with
    | .str s => .ok (.int .i64 (.ofNat s.length)) h
    | .strz n => .ok (.int .i64 (.ofNat n)) h
    | _ => .no 85
  | .lenSl x => match lenOfSlice (val env.tmps x) with
    | some n => .ok (.int .i64 (.ofNat n)) h
    | none => .no 86
  | .lenMap x => match val env.tmps x with
    | .nilmap => .ok (.int .i64 0) h
    | .map b => match h.t.get b with
      | some (.map _ es) => .ok (.int .i64 (.ofNat es.length)) h
      | _ => .no 87
    | _ => .no 88
  | .lenC n _ => .ok (.int .i64 (.ofNat n)) h
  | .delete q m k => match val env.tmps m with
    | .map b => match h.t.get b with
      | some (.map q' es) => match eqEqK q q', delKey q (val env.tmps k) es with
        | true, some es' => .ok (.tup []) ⟨h.t.set b (.map q es'), h.next⟩
        | _, _ => .no 89
      | _ => .no 90
    | _ => .no 91
  | .recover => match env.round with
    | none => .ok .niliface h
    | some _ => .no 96
  | .copy size x y => match val env.tmps x, lenOfSlice (val env.tmps y), cellsOfSlice size h (val env.tmps y) with
    | .nilslice, some _, some _ => .ok (.int .i64 0) h
    | .slice b off l _, some n, some src => match h.t.get b with
      | some (.cells cs sp) => match takeX src (min n l * size) with
        | some new => match allCells new with
          | true => match writeAt off new cs with
            | some cs' => .ok (.int .i64 (.ofNat (min n l))) ⟨h.t.set b (.cells cs' sp), h.next⟩
            | none => .no 97
          | false => .no 98
        | none => .no 99
      | _ => .no 92
    | _, _, _ => .no 92
  | .min x y => match val env.tmps x, val env.tmps y with
    | .int k a, .int _ b => .ok (.int k (match ltI b a with | true => b | false => a)) h
    | _, _ => .no 15
  | .max x y => match val env.tmps x, val env.tmps y with
    | .int k a, .int _ b => .ok (.int k (match ltI a b with | true => b | false => a)) h
    | _, _ => .no 16
  | .eqA neg x y => match val env.tmps x, val env.tmps y with
    | .agg a, .agg b => boolV (sameAll a b) neg h
    | _, _ => .no 17
  | .defer _ _ => .no 93
  | .bad => .no 94

def putV (dst : Option Pos) (v : AV) (env : Env) : Env :=
  match dst with
  | some d => ⟨env.tmps.set d v, env.defers, env.round⟩
  | none => env

/-- Is an operation carried out? none: not known here. -/
def wanted (env : Env) : Option (Pos × Bool) → Option Bool
  | none => some true
  | some (p, want) => match env.tmps.get p with
    | some (.bool b) => some (eqBool b want)
    | some (.tup _) => some false
    | _ => none

def evalOps (r : Rec) : List AOper → Env → Heap → R Env
  | [], env, h => .ok env h
  | o :: ops, env, h =>
    match wanted env o.guard with
    | some true => match o.op with
      | .defer x args => match env.round, val env.tmps x with
        | none, .fn f first captured => evalOps r ops (putV o.dst (.tup []) ⟨env.tmps, .call f (first ++ vals env.tmps args ++ captured) :: env.defers, none⟩) h
        | _, _ => .no 95
      | op => match evalOp r env h op with
        | .ok v h' => evalOps r ops (putV o.dst v env) h'
        | .no why => .no why
    | some false => evalOps r ops (putV o.dst (.tup []) env) h
    | none => .no 116

def beqAV : AV → AV → Bool
  | .undef, .undef => true
  | .bool a, .bool b => match a, b with | true, true | false, false => true | _, _ => false
  | .int j a, .int k b => match eqKind j k with
    | true => eqI a b
    | false => false
  | .str a, .str b => eqStr a b
  | .nilptr, .nilptr => true
  | .ptr a i, .ptr b j => match a.beq b with
    | true => Nat.beq i j
    | false => false
  | .nilslice, .nilslice => true
  | .slice a i l c, .slice b j m d => match a.beq b, Nat.beq i j, Nat.beq l m, c, d with
    | true, true, true, .o x, .o y => Nat.beq x y
    | true, true, true, .c x, .c y => Nat.beq x y
    | _, _, _, _, _ => false
  | .nilmap, .nilmap => true
  | .map a, .map b => a.beq b
  | .nilfn, .nilfn => true
  | .fn f a c, .fn g b d => match f.beq g with
    | true => match beqAVs a b with
      | true => beqAVs c d
      | false => false
    | false => false
  | .yield a, .yield b => a.beq b
  | .niliface, .niliface => true
  | .agg a, .agg b => beqAVs a b
  | .tup a, .tup b => beqAVs a b
  | _, _ => false
where
  beqAVs : List AV → List AV → Bool
  | [], [] => true
  | a :: l, b :: r => match beqAV a b with
    | true => beqAVs l r
    | false => false
  | _, _ => false

/-- What was read is read so in each of so many earlier states, too. -/
def recheck (r : Rec) (env : Env) (op : AOp) (v : AV) : Nat → List Heap → Bool
  | 0, _ => true
  | _ + 1, [] => false
  | k + 1, h :: hs => match evalOp r env h op with
    | .ok u _ => match beqAV v u with
      | true => recheck r env op v k hs
      | false => false
    | .no _ => false

/-- One operation of a region that draws its order: one that reads sees memory as the last one that wrote left it. -/
def stepD (r : Rec) (x : DItem) (env : Env) (hs : List Heap) (h : Heap) : R (Env × List Heap) :=
  match wanted env x.o.guard with
  | none => .no 117
  | some false => match x.cls with
    | .e => .ok (putV x.o.dst (.tup []) env, h :: hs) h
    | _ => .ok (putV x.o.dst (.tup []) env, hs) h
  | some true => match x.cls with
    | .e => match evalOp r env h x.o.op with
      | .ok v h' => .ok (putV x.o.dst v env, h' :: hs) h'
      | .no w => .no w
    | .r k => match hs with
      | h0 :: hs' => match evalOp r env h0 x.o.op with
        | .ok v _ => match recheck r env x.o.op v k hs' with
          | true => .ok (putV x.o.dst v env, hs) h
          | false => .no 105
        | .no w => .no w
      | [] => .no 18
    | _ => match evalOp r env h x.o.op with
      | .ok v h' => .ok (putV x.o.dst v env, hs) h'
      | .no w => .no w

/-- The operations of a region that draws its order, in one order. -/
def evalD (r : Rec) : List DItem → Env → List Heap → Heap → R (Env × List Heap)
  | [], env, hs, h => .ok (env, hs) h
  | x :: l, env, hs, h => match stepD r x env hs h with
    | .ok (env', hs') h' => evalD r l env' hs' h'
    | .no w => .no w

def setParams : List Pos → List AV → PT AV → Option (PT AV)
  | [], [], e => some e
  | p :: ps, v :: vs, e => setParams ps vs (e.set p v)
  | _, _, _ => none

def evalCode (r : Rec) : ACode → Env → Heap → R (AExit × Env)
  | .skip, env, h => .ok (.normal, env) h
  | .region ops, env, h => match evalOps r ops env h with
    | .ok env' h' => .ok (.normal, env') h'
    | .no w => .no w
  | .drawn items, env, h => match evalD r items env [h] h with
    | .ok (env', _) h' => .ok (.normal, env') h'
    | .no w => .no w
  | .seq a b, env, h => match evalCode r a env h with
    | .ok (.normal, env') h' => evalCode r b env' h'
    | res => res
  | .cond c a b, env, h => match val env.tmps c with
    | .bool true => evalCode r a env h
    | .bool false => evalCode r b env h
    | _ => .no 100
  | .block id c, env, h => match evalCode r c env h with
    | .ok (.exit id', env') h' => match Nat.beq id id' with
      | true => .ok (.normal, env') h'
      | false => .ok (.exit id', env') h'
    | res => res
  | .loop c, env, h => match evalCode r c env h with
    | .ok (.normal, env') h' => r.loop c env' h'
    | res => res
  | .rangeFunc f params assign body, env, h =>
    match env.round with
    | some _ => .no 101
    | none =>
      let d := h.next
      let l := h.next.succ
      let h1 : Heap := ⟨(h.t.set d .deferred).set l (.loop .ready .normal env.tmps params assign body d), l.succ⟩
      let env1 : Env := ⟨env.tmps, .collected d :: env.defers, env.round⟩
      match (match val env.tmps f with
        | .fn f first captured => r.call f (first ++ [AV.yield l] ++ captured) h1
        | _ => .no 102) with
      | .ok _ h2 => match h2.t.get l with
        | some (.loop st pending ..) => match st with
          | .busy => .no 103
          | _ => .ok (pending, env1) ⟨h2.t.rem l, h2.next⟩
        | _ => .no 104
      | .no w => .no w
  | .exit id, env, h => .ok (.exit id, env) h
  | .scope c, env, h => evalCode r c env h
  | .ret, env, h => .ok (.ret, env) h

def evalYield (r : Rec) (l : Pos) (args : List AV) (h : Heap) : R AV :=
  match h.t.get l with
  | some (.loop .ready _ tmps params assign body _) =>
    match setParams params args tmps with
    | some tm => match evalCode r assign ⟨tm, [], some l⟩ h with
      | .ok (.normal, env) h1 => match h1.t.get l with
        | some (.loop .ready q1 t1 p1 a1 b1 d1) =>
          match evalCode r body env ⟨h1.t.set l (.loop .busy q1 t1 p1 a1 b1 d1), h1.next⟩ with
          | .ok (ex, _) h2 => match h2.t.get l with
            | some (.loop _ _ t2 p2 a2 b2 d2) => match ex with
              | .normal => .ok (.bool true) ⟨h2.t.set l (.loop .ready .normal t2 p2 a2 b2 d2), h2.next⟩
              | ex => .ok (.bool false) ⟨h2.t.set l (.loop .done ex t2 p2 a2 b2 d2), h2.next⟩
            | _ => .no 110
          | .no w => .no w
        | _ => .no 111
      | .ok _ _ => .no 112
      | .no w => .no w
    | none => .no 113
  | _ => .no 115

def setArgs : List AV → Pos → PT AV → PT AV
  | [], _, e => e
  | v :: vs, p, e => setArgs vs p.succ (e.set p v)

def evalDefers (r : Rec) : List ADef → Heap → R Unit
  | [], h => .ok () h
  | .collected b :: ds, h => match h.t.get b with
    | some .deferred => evalDefers r ds ⟨h.t.rem b, h.next⟩
    | _ => .no 120
  | .call f args :: ds, h => match r.call f args h with
    | .ok _ h' => evalDefers r ds h'
    | .no w => .no w

def evalResult (env : PT AV) (h : Heap) : ARes → Option AV
  | .tmp p => some (val env (.t p))
  | .cell p n => match val env (.t p) with
    | .ptr b off => match h.t.get b with
      | some (.cells cs _) => match n with
        | none => nth cs off
        | some k => match takeX (dropX cs off) k with
          | some l => some (.agg l)
          | none => none
      | _ => none
    | _ => none

def evalResults (env : PT AV) (h : Heap) : List ARes → Option (List AV)
  | [] => some []
  | x :: l => match evalResult env h x, evalResults env h l with
    | some v, some r => some (v :: r)
    | _, _ => none

def evalCall (P : PT AFunc) (r : Rec) (f : Pos) (args : List AV) (h : Heap) : R AV :=
  match P.get f with
  | none => .no (1000 + f.idx)
  | some fn => match evalCode r fn.body ⟨setArgs args .H .E, [], none⟩ h with
    | .ok (ex, env) h1 =>
      match ex with
      | .exit _ => .no 130
      | _ => match evalDefers r env.defers h1 with
        | .ok _ h2 => match evalResults env.tmps h2 fn.results with
          | some [v] => .ok v h2
          | some vs => .ok (.tup vs) h2
          | none => .no 131
        | .no w => .no w
    | .no w => .no w

def fix (P : PT AFunc) : Nat → Rec
  | 0 => ⟨fun _ _ _ => .no 140, fun _ _ _ => .no 141, fun _ _ _ => .no 142⟩
  | n + 1 =>
    let r := fix P n
    ⟨evalCall P r, evalYield r, fun c env h => evalCode r (.loop c) env h⟩

end Go.Am

namespace Go.Am

/-- What is known of a type. -/
structure TI where
  desc : TypeDesc
  size : Nat
  bytes : Nat
  zero : Option AV
  deriving Inhabited

def TI.agg (t : TI) : Bool := match t.desc with
  | .struct _ | .array _ _ => true
  | _ => false

def TI.cells (t : TI) : Option Nat := match t.agg with
  | true => some t.size
  | false => none

mutual
def ofVal : Value → Option AV
  | .bool b => some (.bool b)
  | .int k n => some (.int k n)
  | .string s => some (.str (s.data.toList.map UInt8.toNat))
  | .pointer none => some .nilptr
  | .slice none 0 0 => some .nilslice
  | .map none => some .nilmap
  | .nilFunc => some .nilfn
  | .nilIface => some .niliface
  | .func (.func f) a b => if f < 65536 ∧ a.size = 0 ∧ b.size = 0 then some (.fn (.ofIdx f) [] []) else none
  | .agg cs => (ofVals cs.toList).map .agg
  | _ => none
def ofVals : List Value → Option (List AV)
  | [] => some []
  | v :: l => match ofVal v, ofVals l with
    | some a, some r => some (a :: r)
    | _, _ => none
end

def trArg : Operand → Option AArg
  | .tmp t => if t < 65536 then some (.t (.ofIdx t)) else none
  | .const v => (ofVal v).map .c
  | .func f => if f < 65536 then some (.c (.fn (.ofIdx f) [] [])) else none
  | .global _ => none

def trArgs (l : List Operand) : Option (List AArg) := l.mapM trArg

def trOptArg : Option Operand → Option (Option AArg)
  | none => some none
  | some x => (trArg x).map some

section
def AArg.reads : AArg → List Pos
  | .t p => [p]
  | .c _ => []

def readsL : List AArg → List Pos
  | [] => []
  | x :: l => x.reads ++ readsL l

def readsP : List (Nat × Nat × AArg) → List Pos
  | [] => []
  | (_, _, x) :: l => x.reads ++ readsP l

def readsO : Option AArg → List Pos
  | none => []
  | some x => x.reads

/-- The temporaries that an operation reads. -/
def AOp.reads : AOp → List Pos
  | .move x => x.reads
  | .pick c a b => c.reads ++ (a.reads ++ b.reads)
  | .alloc _ => []
  | .box x => x.reads
  | .build _ ps => readsP ps
  | .buildSlice _ _ ps => readsP ps
  | .insert _ m k v => m.reads ++ (k.reads ++ v.reads)
  | .load _ a => a.reads
  | .store _ a v => a.reads ++ v.reads
  | .nilCheck x => x.reads
  | .bin _ x y => x.reads ++ y.reads
  | .not x => x.reads
  | .neg x => x.reads
  | .conv _ x => x.reads
  | .toStr x => x.reads
  | .mkfn _ a b => readsL a ++ readsL b
  | .mkiface _ x => x.reads
  | .mkmap _ => []
  | .mkslice _ l c => l.reads ++ c.reads
  | .sliceStr x lo hi => x.reads ++ (readsO lo ++ readsO hi)
  | .sliceSl _ x lo hi mx => x.reads ++ (readsO lo ++ (readsO hi ++ readsO mx))
  | .sliceArr _ _ x lo hi mx => x.reads ++ (readsO lo ++ (readsO hi ++ readsO mx))
  | .fieldAddr _ x => x.reads
  | .field _ _ x => x.reads
  | .indexArr _ _ x i => x.reads ++ i.reads
  | .indexSl _ x i => x.reads ++ i.reads
  | .index _ _ _ x i => x.reads ++ i.reads
  | .indexStr x i => x.reads ++ i.reads
  | .lookup _ _ _ m k => m.reads ++ k.reads
  | .extract _ x => x.reads
  | .call _ args => readsL args
  | .callv x args => x.reads ++ readsL args
  | .indexByte x c => x.reads ++ c.reads
  | .append _ x y => x.reads ++ y.reads
  | .lenStr x => x.reads
  | .lenSl x => x.reads
  | .lenMap x => x.reads
  | .lenC _ x => x.reads
  | .delete _ m k => m.reads ++ k.reads
  | .recover => []
  | .copy _ x y => x.reads ++ y.reads
  | .min x y => x.reads ++ y.reads
  | .max x y => x.reads ++ y.reads
  | .eqA _ x y => x.reads ++ y.reads
  | .defer x args => x.reads ++ readsL args
  | .bad => []

def AOper.reads (o : AOper) : List Pos := match o.guard with
  | none => o.op.reads
  | some (p, _) => p :: o.op.reads

/-- What an operation does to memory, a region's map literals aside; none: it has no place in a region that draws its order. -/
def AOp.cls : AOp → Option DCls
  | .alloc _ | .box _ | .buildSlice _ _ _ | .mkmap _ | .mkslice _ _ _ => some .a
  | .load _ _ | .lookup _ _ _ _ _ | .lenMap _ | .toStr _ => some (.r 0)
  | .store _ _ _ | .call _ _ | .callv _ _ | .append _ _ _ | .copy _ _ _ | .delete _ _ _ | .insert _ _ _ _ => some .e
  | .recover | .defer _ _ | .bad => none
  | _ => some .v

def predsOf (ops : Array Oper) : List (List Nat) := ops.toList.map fun o => (o.after.toList.filter (Region.binds .any ·)).map (·.on)

/-- All that comes before, by way of some. -/
def ancOf (tbl : List Nat) : List Nat → Nat
  | [] => 0
  | p :: l => ((1 <<< p) ||| tbl.getD p 0) ||| ancOf tbl l

def ancTbl : List (List Nat) → List Nat → List Nat
  | [], acc => acc
  | ps :: l, acc => ancTbl l (acc ++ [ancOf acc ps])

def inMask (m i : Nat) : Bool := m.testBit i

/-- Is it an entry of a map literal of the region? -/
def isEntry (as : List AOper) : AOp → Bool
  | .insert _ (.t m) (.c _) _ => as.any fun a => match a.op, a.guard, a.dst with
    | .mkmap _, none, some d => d.beq m
    | _, _, _ => false
  | _ => false

def isE : DCls → Bool
  | .e => true
  | _ => false

def clsOf (as : List AOper) (o : AOp) : DCls :=
  match isEntry as o with
  | true => .i
  | false => o.cls.getD .v

def backE (m : Nat) : List (Nat × DCls) → Nat
  | [] => 0
  | (i, c) :: l => match isE c with
    | true => match inMask m i with
      | true => 0
      | false => backE m l + 1
    | false => backE m l

def layR (anc : List Nat) : List (Nat × DCls) → List (Nat × DCls) → List (Nat × DCls)
  | [], acc => acc.reverse
  | (i, .r _) :: l, acc => layR anc l ((i, .r (backE (anc.getD i 0) acc)) :: acc)
  | x :: l, acc => layR anc l (x :: acc)

def layE (anc : List Nat) (all : List (Nat × DCls)) : List (Nat × DCls) → Nat → List (Nat × DCls)
  | [], done => all.filter fun x => (inMask done x.1).not
  | (e, c) :: l, done =>
    let m := anc.getD e 0
    (all.filter fun x => match inMask m x.1 with
      | true => (inMask done x.1).not
      | false => false) ++ (e, c) :: layE anc all l ((done ||| m) ||| (1 <<< e))

/-- An order for a region that draws its own. -/
def lay (anc : List Nat) (as : List AOper) : List (Nat × DCls) :=
  let all := as.zipIdx.map fun (a, i) => (i, clsOf as a.op)
  layR anc (layE anc all (all.filter fun x => isE x.2) 0) []

def itemOf (as : List AOper) (x : Nat × DCls) : Option DItem := (as[x.1]?).map fun o => ⟨x.1, x.2, o⟩

def DItem.pair (x : DItem) : Nat × DCls := (x.ix, x.cls)

def hasPos (p : Pos) : List Pos → Bool
  | [] => false
  | q :: l => match p.beq q with
    | true => true
    | false => hasPos p l

def readsOf (x : DItem) : Option Pos → Bool
  | none => false
  | some p => hasPos p x.o.reads

def sameDst : Option Pos → Option Pos → Bool
  | some p, some q => p.beq q
  | _, _ => false

/-- Two entries of map literals: not one key twice. -/
def okKeys (x y : DItem) : Bool :=
  match x.cls, y.cls with
  | .i, .i => match x.o.op, y.o.op with
    | .insert q _ (.c k) _, .insert _ _ (.c k') _ => match same q k k', same q k' k with
      | some false, some false => true
      | _, _ => false
    | _, _ => false
  | _, _ => true

/-- Two that stand in this order. -/
def okPair (anc : List Nat) (x y : DItem) : Bool :=
  let m := inMask (anc.getD y.ix 0) x.ix
  ((Nat.beq x.ix y.ix).not && ((inMask (anc.getD x.ix 0) y.ix).not && ((sameDst x.o.dst y.o.dst).not &&
    ((match m with
      | true => true
      | false => (readsOf y x.o.dst || (readsOf x y.o.dst || isE y.cls)).not) && okKeys x y))))

def allPairs (f : DItem → DItem → Bool) : List DItem → Bool
  | [] => true
  | x :: l => l.all (f x) && allPairs f l

/-- One by itself, with all that stand before it, the last one first. -/
def okOne (anc : List Nat) (x : DItem) (before : List DItem) : Bool :=
  match x.cls, x.o.op.cls with
  | .v, some .v => true
  | .a, some .a => true
  | .r k, some (.r _) => Nat.ble (backE (anc.getD x.ix 0) (before.map DItem.pair)) k
  | .e, some .e => true
  | .i, some .e => match x.o.op, x.o.guard with
    | .insert q (.t m) (.c _) _, none => before.any fun a => match a.cls, a.o.op, a.o.guard, a.o.dst with
      | .a, .mkmap q', none, some d => d.beq m && (eqEqK q q' && (inMask (anc.getD x.ix 0) a.ix && (match q with | .int | .bool | .str => true | _ => false)))
      | _, _, _, _ => false
    | _, _ => false
  | _, _ => false

def okEach (anc : List Nat) : List DItem → List DItem → Bool
  | [], _ => true
  | x :: l, before => okOne anc x before && okEach anc l (x :: before)

def isI (x : DItem) : Bool := match x.cls with
  | .i => true
  | _ => false

def isER (x : DItem) : Bool := match x.cls with
  | .e | .r _ => true
  | _ => false

def okAnc (anc : List Nat) : Nat → List (List Nat) → Bool
  | _, [] => true
  | n, ps :: l => Nat.beq (anc.getD n 0) (ancOf anc ps) && okAnc anc (n + 1) l

/-- Does the order hold? -/
def okD (ps : List (List Nat)) (anc : List Nat) (items : List DItem) : Bool :=
  okAnc anc 0 ps && ((List.range ps.length).all (fun i => items.any fun x => Nat.beq x.ix i) && (allPairs (okPair anc) items && (okEach anc items [] &&
    ((match items.any isI with
      | true => (items.any isER).not
      | false => true) && (Nat.ble items.length ps.length && (ps.all (fun l => l.all fun p => Nat.blt p ps.length) && items.all fun x => (inMask (anc.getD x.ix 0) x.ix).not))))))
end

section
variable (ty : TypeId → Option TI) (ib : Nat)

def under (t : TypeId) : Option TypeDesc := (ty t).map (·.desc)

def places (fields : Array Field) : Option (List (Nat × Nat)) := fields.toList.mapM fun f => (ty f.type).map fun t => (f.offset, t.size)

/-- The kind of what two values of a type are compared by. -/
def eqKOf (t : TypeId) : Option EqK :=
  match under ty t with
  | some (.int _) => some .int
  | some .bool => some .bool
  | some .string => some .str
  | some (.pointer _) => some .ptr
  | some (.slice _) => some .slice
  | some (.map _ _) => some .map
  | some (.func _ _ _) => some .func
  | _ => none

def trBin (op : BinOp) (t : TypeId) (y : Operand) : Option ABin :=
  match op with
  | .add => some .add
  | .sub => some .sub
  | .mul => some .mul
  | .quo => some .quo
  | .rem => some .rem
  | .and => some .and
  | .or => some .or
  | .xor => some .xor
  | .andNot => some .andNot
  | .shl => some .shl
  | .shr => some .shr
  | .lss => some .lss
  | .leq => some .leq
  | .gtr => some .gtr
  | .geq => some .geq
  | .eql => match under ty t, y with
    | some (.interface _), .const .nilIface => some (.eq .iface)
    | _, _ => (eqKOf ty t).map .eq
  | .neq => match under ty t, y with
    | some (.interface _), .const .nilIface => some (.ne .iface)
    | _, _ => (eqKOf ty t).map .ne

/-- A map's keys are compared by this. -/
def keyK (t : TypeId) : Option EqK :=
  match under ty t with
  | some (.int _) => some .int
  | some .bool => some .bool
  | some .string => some .str
  | _ => none

def zeroCells (elem : TypeId) : Option (List AV) := (ty elem).bind fun t => t.zero.map AV.cells

def trParts (l : List (Nat × Operand)) (place : Nat → Option (Nat × Nat)) : Option (List (Nat × Nat × AArg)) :=
  l.mapM fun (i, x) => (place i).bind fun (off, size) => (trArg x).map fun a => (off, size, a)

def trCall (c : Call) : Option AOp :=
  match c.callee, c.args.toList with
  | .value (.func f), args => do
    let l ← trArgs args
    if f = ib then match l with
      | [x, y] => pure (.indexByte x y)
      | _ => none
    else if f < 65536 then pure (.call (.ofIdx f) l) else none
  | .value x, args => do
    let a ← trArg x
    let l ← trArgs args
    pure (.callv a l)
  | .builtin .len, [x] => do
    let a ← trArg x
    let t ← c.argTypes[0]?
    match ← under ty t with
    | .string => pure (.lenStr a)
    | .slice _ => pure (.lenSl a)
    | .map _ _ => pure (.lenMap a)
    | .array n _ => pure (.lenC n a)
    | .pointer p => match ← under ty p with
      | .array n _ => pure (.lenC n a)
      | _ => none
    | _ => none
  | .builtin .append, [x, y] => do
    let a ← trArg x
    let b ← trArg y
    let t ← c.argTypes[0]?
    let u ← c.argTypes[1]?
    match ← under ty t, ← under ty u with
    | .slice e, .slice _ => do
      let i ← ty e
      let z ← zeroCells ty e
      if z.length = i.size ∧ i.bytes ≤ 65536 ∧ 0 < i.bytes then pure (.append i.size a b) else none
    | _, _ => none
  | .builtin .delete, [x, y] => do
    let a ← trArg x
    let b ← trArg y
    let t ← c.argTypes[0]?
    match ← under ty t with
    | .map k _ => do pure (.delete (← keyK ty k) a b)
    | _ => none
  | .builtin .recover, [] => some .recover
  | .builtin .min, [x, y] => do pure (.min (← trArg x) (← trArg y))
  | .builtin .max, [x, y] => do pure (.max (← trArg x) (← trArg y))
  | .builtin .copy, [x, y] => do
    let a ← trArg x
    let b ← trArg y
    let t ← c.argTypes[0]?
    match ← under ty t with
    | .slice e => do
      let i ← ty e
      pure (.copy i.size a b)
    | _ => none
  | _, _ => none

def trOp (o : Oper) : Option AOp :=
  match o.op with
  | .move x | .assign x => (trArg x).map .move
  | .pick c a b => do pure (.pick (← trArg c) (← trArg a) (← trArg b))
  | .alloc e => (zeroCells ty e).map .alloc
  | .box _ x => (trArg x).map .box
  | .build t parts => do
    let z ← zeroCells ty t
    match ← under ty t with
    | .struct fields => do
      let ps ← places ty fields
      let l ← trParts parts.toList (ps[·]?)
      pure (.build z l)
    | .array _ e => do
      let i ← ty e
      let l ← trParts parts.toList (fun k => some (k * i.size, i.size))
      pure (.build z l)
    | _ => none
  | .buildSlice t n parts => do
    match ← under ty t with
    | .slice e => do
      let i ← ty e
      let z ← zeroCells ty e
      let l ← trParts parts.toList (fun k => some (k * i.size, i.size))
      if n * i.size ≤ 4096 ∧ z.length = i.size then pure (.buildSlice (List.replicate n z).flatten n l) else none
    | _ => none
  | .insert t m k v | .mapUpdate t m k v => do
    match ← under ty t with
    | .map kt _ => do pure (.insert (← keyK ty kt) (← trArg m) (← trArg k) (← trArg v))
    | _ => none
  | .load t a => do pure (.load (← ty t).cells (← trArg a))
  | .store t a v => do pure (.store (← ty t).cells (← trArg a) (← trArg v))
  | .nilCheck x => (trArg x).map .nilCheck
  | .binOp op t x y _ => do pure (.bin (← trBin ty op t y) (← trArg x) (← trArg y))
  | .unOp .not _ x => (trArg x).map .not
  | .unOp .neg _ x => (trArg x).map .neg
  | .convert s d x => do
    match ← under ty s, ← under ty d with
    | .int _, .int k => pure (.conv k (← trArg x))
    | .slice e, .string => match ← under ty e with
      | .int .u8 => pure (.toStr (← trArg x))
      | _ => none
    | _, _ => none
  | .makeFunc (.func f) a b => if f < 65536 then do pure (.mkfn (.ofIdx f) (← trArgs a.toList) (← trArgs b.toList)) else none
  | .makeInterface t x => do
    match ← under ty t with
    | .interface _ => none
    | _ => pure (.mkiface t (← trArg x))
  | .makeMap t none => do
    match ← under ty t with
    | .map kt _ => (keyK ty kt).map .mkmap
    | _ => none
  | .makeMap t (some (.const (.int _ _))) => do
    match ← under ty t with
    | .map kt _ => (keyK ty kt).map .mkmap
    | _ => none
  | .makeSlice t l c => do
    match ← under ty t with
    | .slice e => do
      let i ← ty e
      let z ← zeroCells ty e
      if z.length = i.size ∧ i.bytes ≤ 65536 then pure (.mkslice z (← trArg l) (← trArg c)) else none
    | _ => none
  | .slice t x lo hi mx => if mx.isSome ∧ hi.isNone then none else do
    match ← under ty t with
    | .string => if mx.isSome then none else do pure (.sliceStr (← trArg x) (← trOptArg lo) (← trOptArg hi))
    | .slice e => do
      let i ← ty e
      pure (.sliceSl i.size (← trArg x) (← trOptArg lo) (← trOptArg hi) (← trOptArg mx))
    | .array n e => do
      let i ← ty e
      pure (.sliceArr n i.size (← trArg x) (← trOptArg lo) (← trOptArg hi) (← trOptArg mx))
    | .pointer p => match ← under ty p with
      | .array n e => do
        let i ← ty e
        pure (.sliceArr n i.size (← trArg x) (← trOptArg lo) (← trOptArg hi) (← trOptArg mx))
      | _ => none
    | _ => none
  | .fieldAddr s x f => do
    match ← under ty s with
    | .struct fields => do
      let fd ← fields[f]?
      let i ← ty fd.type
      if i.size == 0 then none else pure (.fieldAddr fd.offset (← trArg x))
    | _ => none
  | .field s x f => do
    match ← under ty s with
    | .struct fields => do
      let fd ← fields[f]?
      let i ← ty fd.type
      pure (.field fd.offset i.cells (← trArg x))
    | _ => none
  | .indexAddr t x i => do
    match ← under ty t with
    | .array n e => do pure (.indexArr n (← ty e).size (← trArg x) (← trArg i))
    | .slice e => do pure (.indexSl (← ty e).size (← trArg x) (← trArg i))
    | _ => none
  | .index t x i => do
    match ← under ty t with
    | .array n e => do
      let u ← ty e
      pure (.index n u.size u.cells (← trArg x) (← trArg i))
    | .string => pure (.indexStr (← trArg x) (← trArg i))
    | _ => none
  | .lookup t m k ok => do
    match ← under ty t with
    | .map kt e => do
      let u ← ty e
      pure (.lookup (← keyK ty kt) (← u.zero) ok (← trArg m) (← trArg k))
    | _ => none
  | .extract x i => (trArg x).map (.extract i)
  | .call c => trCall ty ib c
  | .defer c => match c.callee with
    | .value x => do pure (.defer (← trArg x) (← trArgs c.args.toList))
    | _ => none
  | _ => none

def isCall : Op → Bool
  | .call _ | .defer _ => true
  | _ => false

/-- What cannot be said of an operation is left. -/
def trOp' (o : Oper) : AOp :=
  match trOp ty ib o with
  | some a => match a.calls, isCall o.op with
    | true, false => .bad
    | _, _ => a
  | none => .bad

/-- A temporary that is written: there is room for so many. -/
def trTmp (nt : Nat) (t : Tmp) : Option Pos := if t < nt ∧ t < 65536 then some (.ofIdx t) else none

def trDst (nt : Nat) : Option Tmp → Option (Option Pos)
  | none => some none
  | some t => (trTmp nt t).map some

def trOper (nt : Nat) (ops : Array Oper) (o : Oper) : Option AOper := do
  let a := trOp' ty ib o
  let d ← trDst nt o.dst
  match o.guard with
  | none => pure ⟨d, none, a⟩
  | some (j, want) => do
    let t ← ((ops[j]?).bind (·.dst))
    let p ← trTmp nt t
    pure ⟨d, some (p, want), a⟩

/-- The order that is laid for a region, if it holds. -/
def trDrawn (nt : Nat) (ops : Array Oper) : Option (List DItem) := do
  let as ← ops.toList.mapM (trOper ty ib nt ops)
  let ps := predsOf ops
  let anc := ancTbl ps []
  pure (match (lay anc as).mapM (itemOf as) with
  | some items => match okD ps anc items with
    | true => items
    | false => [⟨0, .v, ⟨none, none, .bad⟩⟩]
  | none => [⟨0, .v, ⟨none, none, .bad⟩⟩])

def trCode (nt : Nat) : Code → Option ACode
  | .skip | .label _ => some .skip
  | .region _ ops false => (ops.toList.mapM (trOper ty ib nt ops)).map .region
  | .region _ ops true => (trDrawn ty ib nt ops).map .drawn
  | .seq a b => do pure (.seq (← trCode nt a) (← trCode nt b))
  | .cond c a b => do pure (.cond (← trArg c) (← trCode nt a) (← trCode nt b))
  | .block id c => (trCode nt c).map (.block id)
  | .loop c => (trCode nt c).map .loop
  | .rangeFunc f ps a b => do pure (.rangeFunc (← trArg f) (← ps.toList.mapM (trTmp nt)) (← trCode nt a) (← trCode nt b))
  | .exit id => some (.exit id)
  | .scope c => (trCode nt c).map .scope
  | .ret => some .ret
  | _ => none

def trRes : ResultVar → Option ARes
  | .tmp t => if t < 65536 then some (.tmp (.ofIdx t)) else none
  | .cell a t => if a < 65536 then (ty t).map fun i => .cell (.ofIdx a) i.cells else none

def trFunc (f : Func) : Option AFunc := do
  let b ← f.body
  let c ← trCode ty ib f.ntmps b
  let rs ← f.results.toList.mapM (trRes ty)
  pure ⟨rs, c⟩
end

def tyOf (P : Program) (t : TypeId) : Option TI :=
  match P.info? t, P.underlying t with
  | some i, some d => some ⟨d, i.size, i.bytes, i.zero.bind ofVal⟩
  | _, _ => none
end Go.Am

