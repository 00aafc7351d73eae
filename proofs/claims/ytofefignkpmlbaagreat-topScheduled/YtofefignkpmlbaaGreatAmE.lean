/- An abstract machine for Go code and its soundness over the model; no condition of its own. Used by the proof that the law TopScheduled returns true at every input. -/
import Derived.Test.YtofefignkpmlbaaGreatAmD
namespace Go.Am
section
variable {α : Type}

noncomputable def PT.getR (p : Pos) : PT α → Option α :=
  @Pos.rec (fun _ => PT α → Option α) (fun t => @PT.casesOn α (fun _ => Option α) t none (fun _ o _ => o))
    (fun _ ih t => @PT.casesOn α (fun _ => Option α) t none (fun l _ _ => ih l))
    (fun _ ih t => @PT.casesOn α (fun _ => Option α) t none (fun _ _ r => ih r)) p

theorem PT.getR_eq : ∀ (p : Pos) (t : PT α), PT.getR p t = PT.get p t
  | .H, .E => rfl
  | .H, .N _ _ _ => rfl
  | .O p, .E => rfl
  | .O p, .N l _ _ => PT.getR_eq p l
  | .I p, .E => rfl
  | .I p, .N _ _ r => PT.getR_eq p r

noncomputable def PT.setR (p : Pos) (v : α) : PT α → PT α :=
  @Pos.rec (fun _ => PT α → PT α) (fun t => @PT.casesOn α (fun _ => PT α) t (.N .E (some v) .E) (fun l _ r => .N l (some v) r))
    (fun _ ih t => @PT.casesOn α (fun _ => PT α) t (.N (ih .E) none .E) (fun l o r => .N (ih l) o r))
    (fun _ ih t => @PT.casesOn α (fun _ => PT α) t (.N .E none (ih .E)) (fun l o r => .N l o (ih r))) p

theorem PT.setR_eq (v : α) : ∀ (p : Pos) (t : PT α), PT.setR p v t = PT.set p v t
  | .H, .E => rfl
  | .H, .N _ _ _ => rfl
  | .O p, .E => congrArg (fun x => PT.N x none .E) (PT.setR_eq v p .E)
  | .O p, .N l o r => congrArg (fun x => PT.N x o r) (PT.setR_eq v p l)
  | .I p, .E => congrArg (fun x => PT.N .E none x) (PT.setR_eq v p .E)
  | .I p, .N l o r => congrArg (fun x => PT.N l o x) (PT.setR_eq v p r)

noncomputable def PT.getF (t : PT α) (p : Pos) : Option α := PT.getR p t
noncomputable def PT.setF (t : PT α) (p : Pos) (v : α) : PT α := PT.setR p v t
theorem PT.getF_eq (t : PT α) (p : Pos) : PT.getF t p = PT.get p t := PT.getR_eq p t
theorem PT.setF_eq (t : PT α) (p : Pos) (v : α) : PT.setF t p v = PT.set p v t := PT.setR_eq v p t
end

noncomputable def valR (env : PT AV) (x : AArg) : AV := @AArg.casesOn (fun _ => AV) x (fun p => @Option.rec AV (fun _ => AV) .undef (fun v => v) (PT.getR p env)) (fun v => v)
theorem valR_eq (env : PT AV) (x : AArg) : valR env x = val env x := by
  cases x with
  | c v => rfl
  | t p =>
    show @Option.rec AV (fun _ => AV) .undef (fun v => v) (PT.getR p env) = _
    rw [PT.getR_eq]
    simp only [val]
    cases PT.get p env <;> rfl

noncomputable def valsR (env : PT AV) (l : List AArg) : List AV := @List.rec AArg (fun _ => List AV) [] (fun x _ ih => valR env x :: ih) l
theorem valsR_eq (env : PT AV) : ∀ l, valsR env l = vals env l
  | [] => rfl
  | x :: l => by
    show valR env x :: valsR env l = val env x :: vals env l
    rw [valR_eq, valsR_eq env l]

noncomputable def lenR (l : List AV) : Nat → Nat := @List.rec AV (fun _ => Nat → Nat) (fun n => n) (fun _ _ ih n => ih (n + 1)) l
theorem lenR_eq : ∀ (l : List AV) (n : Nat), lenR l n = len l n
  | [], _ => rfl
  | _ :: l, n => lenR_eq l (n + 1)

noncomputable def appR (l m : List AV) : List AV := @List.rec AV (fun _ => List AV) m (fun a _ ih => a :: ih) l
theorem appR_eq : ∀ (l m : List AV), appR l m = l ++ m
  | [], _ => rfl
  | a :: l, m => congrArg (fun x => a :: x) (appR_eq l m)

noncomputable def nthR (l : List AV) : Nat → Option AV :=
  @List.rec AV (fun _ => Nat → Option AV) (fun _ => none) (fun a _ ih n => @Nat.rec (fun _ => Option AV) (some a) (fun n _ => ih n) n) l
theorem nthR_eq : ∀ (l : List AV) (n : Nat), nthR l n = nth l n
  | [], _ => by simp only [nth]; rfl
  | _ :: _, 0 => rfl
  | _ :: l, n + 1 => nthR_eq l n

noncomputable def appendR (size : Nat) (x : AV) (n : Nat) (new : List AV) (h : Heap) : R AV :=
  match x with
  | .nilslice => match n with
    | 0 => .ok .nilslice h
    | _ + 1 => match Nat.ble n growMost with
      | true => alloc new (some size) (fun b => .slice b 0 n (.o size)) h
      | false => .no 9
  | .slice b off l cap =>
    match PT.getF h.t b with
    | some (.cells cs sp) =>
      match cap with
      | .c c =>
        match Nat.ble (l + n) c with
        | true => match writeAt (off + l * size) new cs with
          | some cs' => .ok (.slice b off (l + n) (.c c)) ⟨PT.setF h.t b (.cells cs' sp), h.next⟩
          | none => .no 10
        | false => match takeX (dropX cs off) (l * size), Nat.ble (l + n) growMost with
          | some old, true => alloc (old ++ new) (some size) (fun b' => .slice b' 0 (l + n) (.o size)) h
          | _, _ => .no 11
      | .o esz =>
        match n with
        | 0 => .ok (.slice b off l (.o esz)) h
        | _ + 1 => match Nat.beq (off + l * size) (lenR cs 0), Nat.beq esz size, sp, Nat.ble (l + n) growMost with
          | true, true, some _, true => alloc (appR (dropX cs off) new) (some size) (fun b' => .slice b' 0 (l + n) (.o size)) ⟨h.t.rem b, h.next⟩
          | _, _, _, _ => .no 12
    | _ => .no 13
  | _ => .no 14

theorem appendR_eq (size : Nat) (x : AV) (n : Nat) (new : List AV) (h : Heap) : appendR size x n new h = appendA size x n new h := by
  unfold appendR appendA
  simp only [PT.getF_eq, PT.setF_eq, lenR_eq, appR_eq]
  rfl

end Go.Am

namespace Go.Am

noncomputable def kMove (r : Rec) (env : Env) (h : Heap) (x : AArg) : R AV := .ok (valR env.tmps x) h

noncomputable def kPick (r : Rec) (env : Env) (h : Heap) (c : AArg) (a : AArg) (b : AArg) : R AV := match valR env.tmps c with
    | .bool true => .ok (valR env.tmps a) h
    | .bool false => .ok (valR env.tmps b) h
    | _ => .no 20

noncomputable def kAlloc (r : Rec) (env : Env) (h : Heap) (zero : List AV) : R AV := alloc zero none (fun b => .ptr b 0) h

noncomputable def kBox (r : Rec) (env : Env) (h : Heap) (x : AArg) : R AV := match valR env.tmps x with
    | .undef => .no 19
    | a => alloc a.cells none (fun b => .ptr b 0) h

noncomputable def kBuild (r : Rec) (env : Env) (h : Heap) (zero : List AV) (parts : List (Nat × Nat × AArg)) : R AV := match fillA env.tmps parts zero with
    | some l => .ok (.agg l) h
    | none => .no 21

noncomputable def kBuildSlice (r : Rec) (env : Env) (h : Heap) (cells : List AV) (n : Nat) (parts : List (Nat × Nat × AArg)) : R AV := match fillA env.tmps parts cells with
    | some l => alloc l none (fun b => .slice b 0 n (.c n)) h
    | none => .no 22

noncomputable def kInsert (r : Rec) (env : Env) (h : Heap) (q : EqK) (m : AArg) (k : AArg) (v : AArg) : R AV := match valR env.tmps m with
    | .map b => match PT.getF h.t b with
      | some (.map q' es) => match eqEqK q q', setKey q (valR env.tmps k) (valR env.tmps v) es with
        | true, some es' => .ok (.tup []) ⟨PT.setF h.t b (.map q es'), h.next⟩
        | _, _ => .no 23
      | _ => .no 24
    | _ => .no 25

noncomputable def kLoad (r : Rec) (env : Env) (h : Heap) (n : Option Nat) (a : AArg) : R AV := match valR env.tmps a with
    | .ptr b off => match PT.getF h.t b with
      | some (.cells cs _) => match n with
        | none => match nthR cs off with
          | some v => .ok v h
          | none => .no 26
        | some k => match takeX (dropX cs off) k with
          | some l => .ok (.agg l) h
          | none => .no 27
      | _ => .no 28
    | _ => .no 29

noncomputable def kStore (r : Rec) (env : Env) (h : Heap) (n : Option Nat) (a : AArg) (v : AArg) : R AV := match valR env.tmps a with
    | .ptr b off => match PT.getF h.t b with
      | some (.cells cs sp) =>
        let vs := (valR env.tmps v).cells
        match Nat.beq (lenR vs 0) (cellsN n), allCells vs with
        | true, true => match writeAt off vs cs with
          | some cs' => .ok (.tup []) ⟨PT.setF h.t b (.cells cs' sp), h.next⟩
          | none => .no 30
        | _, _ => .no 31
      | _ => .no 32
    | _ => .no 33

noncomputable def kNilCheck (r : Rec) (env : Env) (h : Heap) (x : AArg) : R AV := match valR env.tmps x with
    | .ptr b off => .ok (.ptr b off) h
    | .fn f a b => .ok (.fn f a b) h
    | .yield l => .ok (.yield l) h
    | _ => .no 34

noncomputable def kBin (r : Rec) (env : Env) (h : Heap) (b : ABin) (x : AArg) (y : AArg) : R AV := bin b (valR env.tmps x) (valR env.tmps y) h

noncomputable def kNot (r : Rec) (env : Env) (h : Heap) (x : AArg) : R AV := match valR env.tmps x with
    | .bool b => .ok (.bool b.not) h
    | _ => .no 35

noncomputable def kNeg (r : Rec) (env : Env) (h : Heap) (x : AArg) : R AV := match valR env.tmps x with
    | .int k n => .ok (.int k (wrapI k (0 - n))) h
    | _ => .no 36

noncomputable def kConv (r : Rec) (env : Env) (h : Heap) (k : IntKind) (x : AArg) : R AV := match valR env.tmps x with
    | .int _ n => .ok (.int k (wrapI k n)) h
    | _ => .no 37

noncomputable def kToStr (r : Rec) (env : Env) (h : Heap) (x : AArg) : R AV := match valR env.tmps x with
    | .nilslice => .ok (.str []) h
    | .slice b off l _ => match PT.getF h.t b with
      | some (.cells cs _) => match takeX (dropX cs off) l with
        | some vs => match bytesOf vs with
          | some s => .ok (.str s) h
          | none => .no 38
        | none => .no 39
      | some (.rep n (.int .u8 (.ofNat 0))) => match Nat.ble (off + l) n with
        | true => .ok (.strz l) h
        | false => .no 40
      | _ => .no 41
    | _ => .no 42

noncomputable def kMkfn (r : Rec) (env : Env) (h : Heap) (f : Pos) (a : List AArg) (b : List AArg) : R AV := .ok (.fn f (valsR env.tmps a) (valsR env.tmps b)) h

noncomputable def kMkiface (r : Rec) (env : Env) (h : Heap) (t : TypeId) (x : AArg) : R AV := .ok (.iface t (valR env.tmps x)) h

noncomputable def kMkmap (r : Rec) (env : Env) (h : Heap) (q : EqK) : R AV := .ok (.map h.next) ⟨PT.setF h.t h.next (.map q []), h.next.succ⟩

noncomputable def kMkslice (r : Rec) (env : Env) (h : Heap) (zero : List AV) (l : AArg) (c : AArg) : R AV := match valR env.tmps l, valR env.tmps c with
    | .int .i64 (.ofNat l), .int .i64 (.ofNat c) =>
      match Nat.ble l c, Nat.ble c 1000000 with
      | true, true => match zero with
        | [z] => match Nat.blt c 1000 with
          | true => alloc (List.replicate c z) none (fun b => .slice b 0 l (.c c)) h
          | false => .ok (.slice h.next 0 l (.c c)) ⟨PT.setF h.t h.next (.rep c z), h.next.succ⟩
        | zs => match Nat.blt c 1000 with
          | true => alloc (List.replicate c zs).flatten none (fun b => .slice b 0 l (.c c)) h
          | false => .no 43
      | _, _ => .no 44
    | _, _ => .no 45

noncomputable def kSliceStr (r : Rec) (env : Env) (h : Heap) (x : AArg) (lo : Option AArg) (hi : Option AArg) : R AV := match valR env.tmps x with
    | .str s =>
      let n := s.length
      match bound (optVal env.tmps hi) n n with
      | some hi => match bound (optVal env.tmps lo) 0 hi with
        | some lo => .ok (.str ((s.take hi).drop lo)) h
        | none => .no 46
      | none => .no 47
    | _ => .no 48

noncomputable def kSliceSl (r : Rec) (env : Env) (h : Heap) (size : Nat) (x : AArg) (lo : Option AArg) (hi : Option AArg) (mx : Option AArg) : R AV := match valR env.tmps x with
    | .nilslice =>
      match bound (optVal env.tmps mx) 0 0, bound (optVal env.tmps hi) 0 0, bound (optVal env.tmps lo) 0 0 with
      | some _, some _, some _ => .ok .nilslice h
      | _, _, _ => .no 49
    | .slice b off l cap =>
      match cap with
      | .c c =>
        match bound (optVal env.tmps mx) c c with
        | some m => match bound (optVal env.tmps hi) l m with
          | some hi => match bound (optVal env.tmps lo) 0 hi with
            | some lo => .ok (.slice b (off + lo * size) (hi - lo) (.c (m - lo))) h
            | none => .no 50
          | none => .no 51
        | none => .no 52
      | .o esz =>
        match bound (optVal env.tmps mx) l l with
        | some m => match bound (optVal env.tmps hi) l m with
          | some hi => match bound (optVal env.tmps lo) 0 hi with
            | some lo => match mx with
              | some _ => .ok (.slice b (off + lo * size) (hi - lo) (.c (m - lo))) h
              | none => match Nat.beq esz size with
                | true => .ok (.slice b (off + lo * size) (hi - lo) (.o esz)) h
                | false => .no 53
            | none => .no 54
          | none => .no 55
        | none => .no 56
    | _ => .no 57

noncomputable def kSliceArr (r : Rec) (env : Env) (h : Heap) (n : Nat) (size : Nat) (x : AArg) (lo : Option AArg) (hi : Option AArg) (mx : Option AArg) : R AV := match valR env.tmps x with
    | .ptr b off =>
      match bound (optVal env.tmps mx) n n with
      | some m => match bound (optVal env.tmps hi) n m with
        | some hi => match bound (optVal env.tmps lo) 0 hi with
          | some lo => .ok (.slice b (off + lo * size) (hi - lo) (.c (m - lo))) h
          | none => .no 58
        | none => .no 59
      | none => .no 60
    | _ => .no 61

noncomputable def kFieldAddr (r : Rec) (env : Env) (h : Heap) (off : Nat) (x : AArg) : R AV := match valR env.tmps x with
    | .ptr b o => .ok (.ptr b (o + off)) h
    | _ => .no 62

noncomputable def kField (r : Rec) (env : Env) (h : Heap) (off : Nat) (n : Option Nat) (x : AArg) : R AV := match valR env.tmps x with
    | .agg cs => match n with
      | none => match nthR cs off with
        | some v => .ok v h
        | none => .no 63
      | some k => match takeX (dropX cs off) k with
        | some l => .ok (.agg l) h
        | none => .no 64
    | _ => .no 65

noncomputable def kIndexArr (r : Rec) (env : Env) (h : Heap) (n : Nat) (size : Nat) (x : AArg) (i : AArg) : R AV := match valR env.tmps x, valR env.tmps i with
    | .ptr b o, .int _ (.ofNat i) => match Nat.blt i n with
      | true => .ok (.ptr b (o + i * size)) h
      | false => .no 66
    | _, _ => .no 67

noncomputable def kIndexSl (r : Rec) (env : Env) (h : Heap) (size : Nat) (x : AArg) (i : AArg) : R AV := match valR env.tmps x, valR env.tmps i with
    | .slice b o l _, .int _ (.ofNat i) => match Nat.blt i l with
      | true => .ok (.ptr b (o + i * size)) h
      | false => .no 68
    | _, _ => .no 69

noncomputable def kIndex (r : Rec) (env : Env) (h : Heap) (len : Nat) (size : Nat) (n : Option Nat) (x : AArg) (i : AArg) : R AV := match valR env.tmps x, valR env.tmps i with
    | .agg cs, .int _ (.ofNat i) => match Nat.blt i len with
      | true => match n with
        | none => match nthR cs (i * size) with
          | some v => .ok v h
          | none => .no 70
        | some k => match takeX (dropX cs (i * size)) k with
          | some l => .ok (.agg l) h
          | none => .no 71
      | false => .no 72
    | _, _ => .no 73

noncomputable def kIndexStr (r : Rec) (env : Env) (h : Heap) (x : AArg) (i : AArg) : R AV := match valR env.tmps x, valR env.tmps i with
    | .str s, .int _ (.ofNat i) => match s[i]? with
      | some c => .ok (.int .u8 (.ofNat c)) h
      | none => .no 74
    | .strz n, .int _ (.ofNat i) => match Nat.blt i n with
      | true => .ok (.int .u8 0) h
      | false => .no 75
    | _, _ => .no 76

noncomputable def kLookup (r : Rec) (env : Env) (h : Heap) (q : EqK) (zero : AV) (ok : Bool) (m : AArg) (k : AArg) : R AV := match valR env.tmps m with
    | .nilmap => .ok (withOk ok zero false) h
    | .map b => match PT.getF h.t b with
      | some (.map q' es) => match eqEqK q q', findKey q (valR env.tmps k) es with
        | true, some (some v) => .ok (withOk ok v true) h
        | true, some none => .ok (withOk ok zero false) h
        | _, _ => .no 77
      | _ => .no 78
    | _ => .no 79

noncomputable def kExtract (r : Rec) (env : Env) (h : Heap) (i : Nat) (x : AArg) : R AV := match valR env.tmps x with
    | .tup vs => match nthR vs i with
      | some v => .ok v h
      | none => .no 80
    | _ => .no 81

noncomputable def kCall (r : Rec) (env : Env) (h : Heap) (f : Pos) (args : List AArg) : R AV := r.call f (valsR env.tmps args) h

noncomputable def kCallv (r : Rec) (env : Env) (h : Heap) (x : AArg) (args : List AArg) : R AV := match valR env.tmps x with
    | .fn f first captured => r.call f (first ++ valsR env.tmps args ++ captured) h
    | .yield l => r.yield l (valsR env.tmps args) h
    | _ => .no 82

noncomputable def kIndexByte (r : Rec) (env : Env) (h : Heap) (x : AArg) (c : AArg) : R AV := match valR env.tmps x, valR env.tmps c with
    | .str s, .int .u8 (.ofNat c) => match Nat.blt c 256 with
      | true => .ok (.int .i64 (idxOf c s 0)) h
      | false => .no 7
    | _, _ => .no 83

noncomputable def kAppend (r : Rec) (env : Env) (h : Heap) (size : Nat) (x : AArg) (y : AArg) : R AV := 
    match lenOfSlice (valR env.tmps y), cellsOfSlice size h (valR env.tmps y) with
    | some n, some new => match allCells new with
      | true => appendR size (valR env.tmps x) n new h
      | false => .no 8
    | _, _ => .no 84

noncomputable def kLenStr (r : Rec) (env : Env) (h : Heap) (x : AArg) : R AV := match valR env.tmps x with
    | .str s => .ok (.int .i64 (.ofNat s.length)) h
    | .strz n => .ok (.int .i64 (.ofNat n)) h
    | _ => .no 85

noncomputable def kLenSl (r : Rec) (env : Env) (h : Heap) (x : AArg) : R AV := match lenOfSlice (valR env.tmps x) with
    | some n => .ok (.int .i64 (.ofNat n)) h
    | none => .no 86

noncomputable def kLenMap (r : Rec) (env : Env) (h : Heap) (x : AArg) : R AV := match valR env.tmps x with
    | .nilmap => .ok (.int .i64 0) h
    | .map b => match PT.getF h.t b with
      | some (.map _ es) => .ok (.int .i64 (.ofNat es.length)) h
      | _ => .no 87
    | _ => .no 88

noncomputable def kLenC (r : Rec) (env : Env) (h : Heap) (n : Nat) (_x1 : AArg) : R AV := .ok (.int .i64 (.ofNat n)) h

noncomputable def kDelete (r : Rec) (env : Env) (h : Heap) (q : EqK) (m : AArg) (k : AArg) : R AV := match valR env.tmps m with
    | .map b => match PT.getF h.t b with
      | some (.map q' es) => match eqEqK q q', delKey q (valR env.tmps k) es with
        | true, some es' => .ok (.tup []) ⟨PT.setF h.t b (.map q es'), h.next⟩
        | _, _ => .no 89
      | _ => .no 90
    | _ => .no 91

noncomputable def kRecover (r : Rec) (env : Env) (h : Heap)  : R AV := match env.round with
    | none => .ok .niliface h
    | some _ => .no 96

noncomputable def kCopy (r : Rec) (env : Env) (h : Heap) (size : Nat) (x : AArg) (y : AArg) : R AV := match valR env.tmps x, lenOfSlice (valR env.tmps y), cellsOfSlice size h (valR env.tmps y) with
    | .nilslice, some _, some _ => .ok (.int .i64 0) h
    | .slice b off l _, some n, some src => match PT.getF h.t b with
      | some (.cells cs sp) => match takeX src (min n l * size) with
        | some new => match allCells new with
          | true => match writeAt off new cs with
            | some cs' => .ok (.int .i64 (.ofNat (min n l))) ⟨PT.setF h.t b (.cells cs' sp), h.next⟩
            | none => .no 97
          | false => .no 98
        | none => .no 99
      | _ => .no 92
    | _, _, _ => .no 92

noncomputable def kMin (r : Rec) (env : Env) (h : Heap) (x : AArg) (y : AArg) : R AV := match valR env.tmps x, valR env.tmps y with
    | .int k a, .int _ b => .ok (.int k (match ltI b a with | true => b | false => a)) h
    | _, _ => .no 15

noncomputable def kMax (r : Rec) (env : Env) (h : Heap) (x : AArg) (y : AArg) : R AV := match valR env.tmps x, valR env.tmps y with
    | .int k a, .int _ b => .ok (.int k (match ltI a b with | true => b | false => a)) h
    | _, _ => .no 16

noncomputable def kEqA (r : Rec) (env : Env) (h : Heap) (neg : Bool) (x : AArg) (y : AArg) : R AV := match valR env.tmps x, valR env.tmps y with
    | .agg a, .agg b => boolV (sameAll a b) neg h
    | _, _ => .no 17

noncomputable def kDefer (r : Rec) (env : Env) (h : Heap) (_x0 : AArg) (_x1 : List AArg) : R AV := .no 93

noncomputable def kBad (r : Rec) (env : Env) (h : Heap)  : R AV := .no 94

noncomputable def evalOpK (r : Rec) (env : Env) (h : Heap) : AOp → R AV
  | .move x => kMove r env h x
  | .pick c a b => kPick r env h c a b
  | .alloc zero => kAlloc r env h zero
  | .box x => kBox r env h x
  | .build zero parts => kBuild r env h zero parts
  | .buildSlice cells n parts => kBuildSlice r env h cells n parts
  | .insert q m k v => kInsert r env h q m k v
  | .load n a => kLoad r env h n a
  | .store n a v => kStore r env h n a v
  | .nilCheck x => kNilCheck r env h x
  | .bin b x y => kBin r env h b x y
  | .not x => kNot r env h x
  | .neg x => kNeg r env h x
  | .conv k x => kConv r env h k x
  | .toStr x => kToStr r env h x
  | .mkfn f a b => kMkfn r env h f a b
  | .mkiface t x => kMkiface r env h t x
  | .mkmap q => kMkmap r env h q
  | .mkslice zero l c => kMkslice r env h zero l c
  | .sliceStr x lo hi => kSliceStr r env h x lo hi
  | .sliceSl size x lo hi mx => kSliceSl r env h size x lo hi mx
  | .sliceArr n size x lo hi mx => kSliceArr r env h n size x lo hi mx
  | .fieldAddr off x => kFieldAddr r env h off x
  | .field off n x => kField r env h off n x
  | .indexArr n size x i => kIndexArr r env h n size x i
  | .indexSl size x i => kIndexSl r env h size x i
  | .index len size n x i => kIndex r env h len size n x i
  | .indexStr x i => kIndexStr r env h x i
  | .lookup q zero ok m k => kLookup r env h q zero ok m k
  | .extract i x => kExtract r env h i x
  | .call f args => kCall r env h f args
  | .callv x args => kCallv r env h x args
  | .indexByte x c => kIndexByte r env h x c
  | .append size x y => kAppend r env h size x y
  | .lenStr x => kLenStr r env h x
  | .lenSl x => kLenSl r env h x
  | .lenMap x => kLenMap r env h x
  | .lenC n x1 => kLenC r env h n x1
  | .delete q m k => kDelete r env h q m k
  | .recover => kRecover r env h
  | .copy size x y => kCopy r env h size x y
  | .min x y => kMin r env h x y
  | .max x y => kMax r env h x y
  | .eqA neg x y => kEqA r env h neg x y
  | .defer x0 x1 => kDefer r env h x0 x1
  | .bad => kBad r env h

theorem evalOpK_eq (r : Rec) (env : Env) (h : Heap) (op : AOp) : evalOpK r env h op = evalOp r env h op := by
  cases op <;> first | rfl | (simp only [evalOpK, evalOp, kMove, kPick, kAlloc, kBox, kBuild, kBuildSlice, kInsert, kLoad, kStore, kNilCheck, kBin, kNot, kNeg, kConv, kToStr, kMkfn, kMkiface, kMkmap, kMkslice, kSliceStr, kSliceSl, kSliceArr, kFieldAddr, kField, kIndexArr, kIndexSl, kIndex, kIndexStr, kLookup, kExtract, kCall, kCallv, kIndexByte, kAppend, kLenStr, kLenSl, kLenMap, kLenC, kDelete, kRecover, kCopy, kMin, kMax, kEqA, kDefer, kBad, valR_eq, valsR_eq, PT.getF_eq, PT.setF_eq, nthR_eq, lenR_eq, appendR_eq]; done) | (simp only [evalOpK, evalOp, kMove, kPick, kAlloc, kBox, kBuild, kBuildSlice, kInsert, kLoad, kStore, kNilCheck, kBin, kNot, kNeg, kConv, kToStr, kMkfn, kMkiface, kMkmap, kMkslice, kSliceStr, kSliceSl, kSliceArr, kFieldAddr, kField, kIndexArr, kIndexSl, kIndex, kIndexStr, kLookup, kExtract, kCall, kCallv, kIndexByte, kAppend, kLenStr, kLenSl, kLenMap, kLenC, kDelete, kRecover, kCopy, kMin, kMax, kEqA, kDefer, kBad, valR_eq, valsR_eq, PT.getF_eq, PT.setF_eq, nthR_eq, lenR_eq, appendR_eq]; rfl)

end Go.Am

