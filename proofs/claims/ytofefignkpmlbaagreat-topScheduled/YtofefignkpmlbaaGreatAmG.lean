/- An abstract machine for Go code and its soundness over the model; no condition of its own. Used by the proof that the law TopScheduled returns true at every input. -/
import Derived.Test.YtofefignkpmlbaaGreatAmF
/- The evaluator, step by step: equations that rewrite from the inside out. -/
namespace Go.Am

def Heap.get (h : Heap) (b : Pos) : Option AObj := h.t.get b
def Heap.upd (h : Heap) (b : Pos) (o : AObj) : Heap := ⟨h.t.set b o, h.next⟩
def Heap.new (h : Heap) (o : AObj) : Heap := ⟨h.t.set h.next o, h.next.succ⟩
def Heap.del (h : Heap) (b : Pos) : Heap := ⟨h.t.rem b, h.next⟩

def consO (x : AV) : Option (List AV) → Option (List AV)
  | some r => some (x :: r)
  | none => none
def getV : Option AV → AV
  | some v => v
  | none => .undef
def bNot : Bool → Bool
  | true => false
  | false => true

/-! operations -/
def pickV (a b : AV) (h : Heap) : AV → R AV
  | .bool true => .ok a h
  | .bool false => .ok b h
  | _ => .no 20
def boxV (h : Heap) : AV → R AV
  | .undef => .no 19
  | a => .ok (.ptr h.next 0) (h.new (.cells a.cells none))
def optAgg (w : Nat) (h : Heap) : Option (List AV) → R AV
  | some l => .ok (.agg l) h
  | none => .no w
def optVal' (w : Nat) (h : Heap) : Option AV → R AV
  | some v => .ok v h
  | none => .no w
def sliceOf (n : Nat) (h : Heap) : Option (List AV) → R AV
  | some l => .ok (.slice h.next 0 n (.c n)) (h.new (.cells l none))
  | none => .no 22
def loadN (n : Option Nat) (off : Nat) (h : Heap) (cs : List AV) : R AV :=
  match n with
  | none => optVal' 26 h (nth cs off)
  | some k => optAgg 27 h (takeX (dropX cs off) k)
def loadC (n : Option Nat) (off : Nat) (h : Heap) : Option AObj → R AV
  | some (.cells cs _) => loadN n off h cs
  | _ => .no 28
def loadV (n : Option Nat) (h : Heap) : AV → R AV
  | .ptr b off => loadC n off h (h.get b)
  | _ => .no 29
def storeW (b : Pos) (sp : Option Nat) (h : Heap) : Option (List AV) → R AV
  | some cs' => .ok (.tup []) (h.upd b (.cells cs' sp))
  | none => .no 30
def storeK (b : Pos) (off : Nat) (sp : Option Nat) (cs vs : List AV) (h : Heap) : Bool → Bool → R AV
  | true, true => storeW b sp h (writeAt off vs cs)
  | _, _ => .no 31
def storeC (n : Option Nat) (b : Pos) (off : Nat) (vs : List AV) (h : Heap) : Option AObj → R AV
  | some (.cells cs sp) => storeK b off sp cs vs h (Nat.beq (len vs 0) (cellsN n)) (allCells vs)
  | _ => .no 32
def storeV (n : Option Nat) (v : AV) (h : Heap) : AV → R AV
  | .ptr b off => storeC n b off v.cells h (h.get b)
  | _ => .no 33
def nilV (h : Heap) : AV → R AV
  | .ptr b off => .ok (.ptr b off) h
  | .fn f a b => .ok (.fn f a b) h
  | .yield l => .ok (.yield l) h
  | _ => .no 34
def notV (h : Heap) : AV → R AV
  | .bool b => .ok (.bool b.not) h
  | _ => .no 35
def negV (h : Heap) : AV → R AV
  | .int k n => .ok (.int k (wrapI k (0 - n))) h
  | _ => .no 36
def convV (k : IntKind) (h : Heap) : AV → R AV
  | .int _ n => .ok (.int k (wrapI k n)) h
  | _ => .no 37
def fieldAddrV (off : Nat) (h : Heap) : AV → R AV
  | .ptr b o => .ok (.ptr b (o + off)) h
  | _ => .no 62
def fieldV (off : Nat) (n : Option Nat) (h : Heap) : AV → R AV
  | .agg cs => match n with
    | none => optVal' 63 h (nth cs off)
    | some k => optAgg 64 h (takeX (dropX cs off) k)
  | _ => .no 65
def ptrIf (w : Nat) (b : Pos) (off : Nat) (h : Heap) : Bool → R AV
  | true => .ok (.ptr b off) h
  | false => .no w
def indexArrV (n size : Nat) (h : Heap) : AV → AV → R AV
  | .ptr b o, .int _ (.ofNat i) => ptrIf 66 b (o + i * size) h (Nat.blt i n)
  | _, _ => .no 67
def indexSlV (size : Nat) (h : Heap) : AV → AV → R AV
  | .slice b o l _, .int _ (.ofNat i) => ptrIf 68 b (o + i * size) h (Nat.blt i l)
  | _, _ => .no 69
def extractV (i : Nat) (h : Heap) : AV → R AV
  | .tup vs => optVal' 80 h (nth vs i)
  | _ => .no 81
def callvV (r : Rec) (args : List AV) (h : Heap) : AV → R AV
  | .fn f first captured => r.call f (first ++ args ++ captured) h
  | .yield l => r.yield l args h
  | _ => .no 82
def intOr (w : Nat) (h : Heap) : Option Nat → R AV
  | some n => .ok (.int .i64 (.ofNat n)) h
  | none => .no w
def minV (h : Heap) : AV → AV → R AV
  | .int k a, .int _ b => .ok (.int k (bif ltI b a then b else a)) h
  | _, _ => .no 15
def maxV (h : Heap) : AV → AV → R AV
  | .int k a, .int _ b => .ok (.int k (bif ltI a b then b else a)) h
  | _, _ => .no 16
def eqAV (neg : Bool) (h : Heap) : AV → AV → R AV
  | .agg a, .agg b => boolV (sameAll a b) neg h
  | _, _ => .no 17
def binV (h : Heap) : Option AV → R AV
  | some v => .ok v h
  | none => .no 2
def sl3 (size : Nat) (b : Pos) (off m hi : Nat) (h : Heap) : Option Nat → R AV
  | some lo => .ok (.slice b (off + lo * size) (hi - lo) (.c (m - lo))) h
  | none => .no 50
def sl2 (size : Nat) (b : Pos) (off m : Nat) (lo : Option AV) (h : Heap) : Option Nat → R AV
  | some hi => sl3 size b off m hi h (bound lo 0 hi)
  | none => .no 51
def sl1 (size : Nat) (b : Pos) (off l : Nat) (lo hi : Option AV) (h : Heap) : Option Nat → R AV
  | some m => sl2 size b off m lo h (bound hi l m)
  | none => .no 52
def so3 (size esz : Nat) (b : Pos) (off m hi : Nat) (mx : Bool) (h : Heap) : Option Nat → R AV
  | some lo => match mx with
    | true => .ok (.slice b (off + lo * size) (hi - lo) (.c (m - lo))) h
    | false => match Nat.beq esz size with
      | true => .ok (.slice b (off + lo * size) (hi - lo) (.o esz)) h
      | false => .no 53
  | none => .no 54
def so2 (size esz : Nat) (b : Pos) (off m : Nat) (lo : Option AV) (mx : Bool) (h : Heap) : Option Nat → R AV
  | some hi => so3 size esz b off m hi mx h (bound lo 0 hi)
  | none => .no 55
def so1 (size esz : Nat) (b : Pos) (off l : Nat) (lo hi : Option AV) (mx : Bool) (h : Heap) : Option Nat → R AV
  | some m => so2 size esz b off m lo mx h (bound hi l m)
  | none => .no 56
def sn1 (h : Heap) : Option Nat → Option Nat → Option Nat → R AV
  | some _, some _, some _ => .ok .nilslice h
  | _, _, _ => .no 49
def sliceV (size : Nat) (lo hi mx : Option AV) (h : Heap) : AV → R AV
  | .nilslice => sn1 h (bound mx 0 0) (bound hi 0 0) (bound lo 0 0)
  | .slice b off l (.c c) => sl1 size b off l lo hi h (bound mx c c)
  | .slice b off l (.o esz) => so1 size esz b off l lo hi mx.isSome h (bound mx l l)
  | _ => .no 57
def appB (size : Nat) (x : AV) (n : Nat) (new : List AV) (h : Heap) : Bool → R AV
  | true => appendA size x n new h
  | false => .no 8
def appV (size : Nat) (x : AV) (h : Heap) : Option Nat → Option (List AV) → R AV
  | some n, some new => appB size x n new h (allCells new)
  | _, _ => .no 84

section
variable (r : Rec) (env : Env) (h : Heap)
theorem op_move (x) : evalOp r env h (.move x) = .ok (val env.tmps x) h := rfl
theorem op_pick (c a b) : evalOp r env h (.pick c a b) = pickV (val env.tmps a) (val env.tmps b) h (val env.tmps c) := by
  simp only [evalOp]; cases val env.tmps c <;> (try rfl)
theorem op_alloc (z) : evalOp r env h (.alloc z) = .ok (.ptr h.next 0) (h.new (.cells z none)) := rfl
theorem op_box (x) : evalOp r env h (.box x) = boxV h (val env.tmps x) := by
  simp only [evalOp]; cases val env.tmps x <;> rfl
theorem op_build (z ps) : evalOp r env h (.build z ps) = optAgg 21 h (fillA env.tmps ps z) := by
  simp only [evalOp]; cases fillA env.tmps ps z <;> rfl
theorem op_buildSlice (z n ps) : evalOp r env h (.buildSlice z n ps) = sliceOf n h (fillA env.tmps ps z) := by
  simp only [evalOp]; cases fillA env.tmps ps z <;> rfl
theorem op_load (n a) : evalOp r env h (.load n a) = loadV n h (val env.tmps a) := by
  simp only [evalOp]
  cases val env.tmps a <;> try rfl
theorem op_store (n a v) : evalOp r env h (.store n a v) = storeV n (val env.tmps v) h (val env.tmps a) := by
  simp only [evalOp]
  cases val env.tmps a <;> try rfl
theorem op_nilCheck (x) : evalOp r env h (.nilCheck x) = nilV h (val env.tmps x) := by
  simp only [evalOp]; cases val env.tmps x <;> rfl
theorem op_bin (b x y) : evalOp r env h (.bin b x y) = bin b (val env.tmps x) (val env.tmps y) h := rfl
theorem op_not (x) : evalOp r env h (.not x) = notV h (val env.tmps x) := by
  simp only [evalOp]; cases val env.tmps x <;> rfl
theorem op_neg (x) : evalOp r env h (.neg x) = negV h (val env.tmps x) := by
  simp only [evalOp]; cases val env.tmps x <;> rfl
theorem op_conv (k x) : evalOp r env h (.conv k x) = convV k h (val env.tmps x) := by
  simp only [evalOp]; cases val env.tmps x <;> rfl
theorem op_mkfn (f a b) : evalOp r env h (.mkfn f a b) = .ok (.fn f (vals env.tmps a) (vals env.tmps b)) h := rfl
theorem op_fieldAddr (o x) : evalOp r env h (.fieldAddr o x) = fieldAddrV o h (val env.tmps x) := by
  simp only [evalOp]; cases val env.tmps x <;> rfl
theorem op_field (o n x) : evalOp r env h (.field o n x) = fieldV o n h (val env.tmps x) := by
  simp only [evalOp]; cases val env.tmps x <;> try rfl
theorem op_indexArr (n s x i) : evalOp r env h (.indexArr n s x i) = indexArrV n s h (val env.tmps x) (val env.tmps i) := by
  simp only [evalOp]
  cases val env.tmps x <;> try rfl
theorem op_indexSl (s x i) : evalOp r env h (.indexSl s x i) = indexSlV s h (val env.tmps x) (val env.tmps i) := by
  simp only [evalOp]
  cases val env.tmps x <;> try rfl
theorem op_extract (i x) : evalOp r env h (.extract i x) = extractV i h (val env.tmps x) := by
  simp only [evalOp]; cases val env.tmps x <;> try rfl
theorem op_call (f args) : evalOp r env h (.call f args) = r.call f (vals env.tmps args) h := rfl
theorem op_callv (x args) : evalOp r env h (.callv x args) = callvV r (vals env.tmps args) h (val env.tmps x) := by
  simp only [evalOp]; cases val env.tmps x <;> rfl
theorem op_append (s x y) : evalOp r env h (.append s x y) = appV s (val env.tmps x) h (lenOfSlice (val env.tmps y)) (cellsOfSlice s h (val env.tmps y)) := by
  simp only [evalOp]
  cases lenOfSlice (val env.tmps y) <;> cases cellsOfSlice s h (val env.tmps y) <;> try rfl
theorem op_lenSl (x) : evalOp r env h (.lenSl x) = intOr 86 h (lenOfSlice (val env.tmps x)) := by
  simp only [evalOp]; cases lenOfSlice (val env.tmps x) <;> rfl
theorem op_lenC (n x) : evalOp r env h (.lenC n x) = .ok (.int .i64 (.ofNat n)) h := rfl
theorem op_min (x y) : evalOp r env h (.min x y) = minV h (val env.tmps x) (val env.tmps y) := by
  simp only [evalOp]; cases val env.tmps x <;> try rfl
theorem op_max (x y) : evalOp r env h (.max x y) = maxV h (val env.tmps x) (val env.tmps y) := by
  simp only [evalOp]; cases val env.tmps x <;> try rfl
theorem op_eqA (n x y) : evalOp r env h (.eqA n x y) = eqAV n h (val env.tmps x) (val env.tmps y) := by
  simp only [evalOp]; cases val env.tmps x <;> try rfl
theorem op_sliceSl (s x lo hi mx) : evalOp r env h (.sliceSl s x lo hi mx) = sliceV s (optVal env.tmps lo) (optVal env.tmps hi) (optVal env.tmps mx) h (val env.tmps x) := by
  simp only [evalOp]
  cases hx : val env.tmps x
  case nilslice =>
    simp only [sliceV]
    cases bound (optVal env.tmps mx) 0 0 <;> cases bound (optVal env.tmps hi) 0 0 <;> cases bound (optVal env.tmps lo) 0 0 <;> rfl
  case slice b off l cap =>
    cases cap with
    | c c =>
      simp only [sliceV]
      cases bound (optVal env.tmps mx) c c with
      | none => rfl
      | some m =>
        simp only [sl1]
        cases bound (optVal env.tmps hi) l m with
        | none => rfl
        | some hi =>
          simp only [sl2]
          cases bound (optVal env.tmps lo) 0 hi <;> rfl
    | o esz =>
      simp only [sliceV]
      cases bound (optVal env.tmps mx) l l with
      | none => rfl
      | some m =>
        simp only [so1]
        cases bound (optVal env.tmps hi) l m with
        | none => rfl
        | some hi =>
          simp only [so2]
          cases bound (optVal env.tmps lo) 0 hi with
          | none => rfl
          | some lo =>
            cases mx <;> simp only [so3, optVal, Option.isSome_none, Option.isSome_some] <;> first | rfl | (cases Nat.beq esz s <;> rfl)
  all_goals rfl
end

/-! regions -/
def thenO (r : Rec) (dst : Option Pos) (ops : List AOper) (env : Env) : R AV → R Env
  | .ok v h => evalOps r ops (putV dst v env) h
  | .no w => .no w
def AOp.isDefer : AOp → Bool
  | .defer _ _ => true
  | _ => false
def wantO (want : Bool) : AV → Option Bool
  | .bool b => some (eqBool b want)
  | .tup _ => some false
  | _ => none
theorem ops_nil (r env h) : evalOps r [] env h = .ok env h := by simp only [evalOps]
theorem ops_cons (r : Rec) (dst : Option Pos) (op : AOp) (ops : List AOper) (env : Env) (h : Heap) (hd : op.isDefer = false) :
    evalOps r (⟨dst, none, op⟩ :: ops) env h = thenO r dst ops env (evalOp r env h op) := by
  simp only [evalOps, wanted]
  cases op <;> first | (simp [AOp.isDefer] at hd; done) | (simp only [thenO]; split <;> simp_all)
theorem ops_skip (r : Rec) (dst : Option Pos) (op : AOp) (ops : List AOper) (env : Env) (h : Heap) (p : Pos) (b : Bool) (hw : wanted env (some (p, b)) = some false) :
    evalOps r (⟨dst, some (p, b), op⟩ :: ops) env h = evalOps r ops (putV dst (.tup []) env) h := by
  simp only [evalOps, hw]
theorem ops_do (r : Rec) (dst : Option Pos) (op : AOp) (ops : List AOper) (env : Env) (h : Heap) (p : Pos) (b : Bool) (hd : op.isDefer = false) (hw : wanted env (some (p, b)) = some true) :
    evalOps r (⟨dst, some (p, b), op⟩ :: ops) env h = thenO r dst ops env (evalOp r env h op) := by
  simp only [evalOps, hw]
  cases op <;> first | (simp [AOp.isDefer] at hd; done) | (simp only [thenO]; split <;> simp_all)
end Go.Am

/- Code, calls, rounds: equations. -/
namespace Go.Am

theorem Pos.y_nat_succ : ∀ p : Pos, p.succ.nat = p.nat + 1
  | .H => rfl
  | .O p => rfl
  | .I p => by
    have := Pos.y_nat_succ p
    simp only [Pos.succ, Pos.nat, this]; omega
theorem Pos.y_nat_inj : ∀ {p q : Pos}, p.nat = q.nat → p = q
  | .H, .H, _ => rfl
  | .H, .O q, h => by have : 1 ≤ q.nat := Pos.y_nat_pos q; simp only [Pos.nat] at h; omega
  | .H, .I q, h => by have : 1 ≤ q.nat := Pos.y_nat_pos q; simp only [Pos.nat] at h; omega
  | .O p, .H, h => by have : 1 ≤ p.nat := Pos.y_nat_pos p; simp only [Pos.nat] at h; omega
  | .O p, .O q, h => by rw [Pos.y_nat_inj (p := p) (q := q) (by simp only [Pos.nat] at h; omega)]
  | .O p, .I q, h => by simp only [Pos.nat] at h; omega
  | .I p, .H, h => by have : 1 ≤ p.nat := Pos.y_nat_pos p; simp only [Pos.nat] at h; omega
  | .I p, .O q, h => by simp only [Pos.nat] at h; omega
  | .I p, .I q, h => by rw [Pos.y_nat_inj (p := p) (q := q) (by simp only [Pos.nat] at h; omega)]
where
  Pos.y_nat_pos : ∀ p : Pos, 1 ≤ p.nat
    | .H => Nat.le_refl 1
    | .O p => by have := Pos.y_nat_pos p; simp only [Pos.nat]; omega
    | .I p => by have := Pos.y_nat_pos p; simp only [Pos.nat]; omega
theorem PT.y_gs {α : Type} : ∀ (p : Pos) (v : α) (t : PT α), PT.get p (PT.set p v t) = some v
  | .H, _, .E => rfl
  | .H, _, .N _ _ _ => rfl
  | .O p, v, .E => PT.y_gs p v .E
  | .O p, v, .N l _ _ => PT.y_gs p v l
  | .I p, v, .E => PT.y_gs p v .E
  | .I p, v, .N _ _ r => PT.y_gs p v r
theorem PT.y_ge {α : Type} (p : Pos) : PT.get p (.E : PT α) = none := by cases p <;> rfl
theorem PT.y_gn {α : Type} : ∀ {p q : Pos} (v : α) (t : PT α), p ≠ q → PT.get p (PT.set q v t) = PT.get p t
  | .H, .H, _, _, h => absurd rfl h
  | .H, .O _, _, .E, _ => rfl
  | .H, .O _, _, .N _ _ _, _ => rfl
  | .H, .I _, _, .E, _ => rfl
  | .H, .I _, _, .N _ _ _, _ => rfl
  | .O _, .H, _, .E, _ => PT.y_ge _
  | .O _, .H, _, .N _ _ _, _ => rfl
  | .O p, .O q, v, .E, h => (PT.y_gn (p := p) (q := q) v .E (fun e => h (by rw [e]))).trans (PT.y_ge _)
  | .O p, .O q, v, .N l _ _, h => PT.y_gn (p := p) (q := q) v l (fun e => h (by rw [e]))
  | .O _, .I _, _, .E, _ => PT.y_ge _
  | .O _, .I _, _, .N _ _ _, _ => rfl
  | .I _, .H, _, .E, _ => PT.y_ge _
  | .I _, .H, _, .N _ _ _, _ => rfl
  | .I _, .O _, _, .E, _ => PT.y_ge _
  | .I _, .O _, _, .N _ _ _, _ => rfl
  | .I p, .I q, v, .E, h => (PT.y_gn (p := p) (q := q) v .E (fun e => h (by rw [e]))).trans (PT.y_ge _)
  | .I p, .I q, v, .N _ _ r, h => PT.y_gn (p := p) (q := q) v r (fun e => h (by rw [e]))
theorem PT.y_rn {α : Type} : ∀ {p q : Pos} (t : PT α), p ≠ q → PT.get p (PT.rem q t) = PT.get p t
  | .H, .H, _, h => absurd rfl h
  | _, .H, .E, _ => rfl
  | _, .O _, .E, _ => rfl
  | _, .I _, .E, _ => rfl
  | .H, .O _, .N _ _ _, _ => rfl
  | .H, .I _, .N _ _ _, _ => rfl
  | .O _, .H, .N _ _ _, _ => rfl
  | .O p, .O q, .N l _ _, h => PT.y_rn (p := p) (q := q) l (fun e => h (by rw [e]))
  | .O _, .I _, .N _ _ _, _ => rfl
  | .I _, .H, .N _ _ _, _ => rfl
  | .I _, .O _, .N _ _ _, _ => rfl
  | .I p, .I q, .N _ _ r, h => PT.y_rn (p := p) (q := q) r (fun e => h (by rw [e]))

theorem get_upd_same (h : Heap) (b o) : (h.upd b o).get b = some o := PT.y_gs _ _ _
theorem get_upd (h : Heap) (b o) {c : Pos} (hn : c.nat ≠ b.nat) : (h.upd b o).get c = h.get c := PT.y_gn _ _ (fun e => hn (by rw [e]))
theorem get_new_same (h : Heap) (o) : (h.new o).get h.next = some o := PT.y_gs _ _ _
theorem get_new (h : Heap) (o) {c : Pos} (hn : c.nat ≠ h.next.nat) : (h.new o).get c = h.get c := PT.y_gn _ _ (fun e => hn (by rw [e]))
theorem get_del (h : Heap) (b) {c : Pos} (hn : c.nat ≠ b.nat) : (h.del b).get c = h.get c := PT.y_rn _ (fun e => hn (by rw [e]))
theorem next_upd (h : Heap) (b o) : (h.upd b o).next = h.next := by cases h; rfl
theorem next_new (h : Heap) (o) : (h.new o).next = h.next.succ := by cases h; rfl
theorem next_del (h : Heap) (b) : (h.del b).next = h.next := by cases h; rfl
theorem get_t (h : Heap) (b) : PT.get b h.t = h.get b := rfl

/-! regions that draw their order -/
def thenD (r : Rec) (l : List DItem) : R (Env × List Heap) → R (Env × List Heap)
  | .ok (env', hs') h' => evalD r l env' hs' h'
  | .no w => .no w
def madeK (dst : Option Pos) (env : Env) (hs : List Heap) : R AV → R (Env × List Heap)
  | .ok v h' => .ok (putV dst v env, hs) h'
  | .no w => .no w
def wroteK (dst : Option Pos) (env : Env) (hs : List Heap) : R AV → R (Env × List Heap)
  | .ok v h' => .ok (putV dst v env, h' :: hs) h'
  | .no w => .no w
def readOk (dst : Option Pos) (env : Env) (hs : List Heap) (h : Heap) (v : AV) : Bool → R (Env × List Heap)
  | true => .ok (putV dst v env, hs) h
  | false => .no 105
def readK (r : Rec) (dst : Option Pos) (op : AOp) (env : Env) (k : Nat) (hs hs' : List Heap) (h : Heap) : R AV → R (Env × List Heap)
  | .ok v _ => readOk dst env hs h v (recheck r env op v k hs')
  | .no w => .no w
def recheckK' (r : Rec) (env : Env) (op : AOp) (v : AV) (k : Nat) (hs : List Heap) : R AV → Bool
  | .ok u _ => bif beqAV v u then recheck r env op v k hs else false
  | .no _ => false
def stepW (r : Rec) (ix : Nat) (cls : DCls) (dst : Option Pos) (op : AOp) (env : Env) (hs : List Heap) (h : Heap) : Option Bool → R (Env × List Heap)
  | some true => stepD r ⟨ix, cls, ⟨dst, none, op⟩⟩ env hs h
  | some false => match cls with
    | .e => .ok (putV dst (.tup []) env, h :: hs) h
    | _ => .ok (putV dst (.tup []) env, hs) h
  | none => .no 117
section
variable (r : Rec) (env : Env) (h : Heap) (hs : List Heap)
theorem d_nil : evalD r [] env hs h = .ok (env, hs) h := by simp only [evalD]
theorem d_cons (x l) : evalD r (x :: l) env hs h = thenD r l (stepD r x env hs h) := by
  simp only [evalD, thenD]
  cases stepD r x env hs h <;> rfl
theorem d_v (ix dst op) : stepD r ⟨ix, .v, ⟨dst, none, op⟩⟩ env hs h = madeK dst env hs (evalOp r env h op) := by
  simp only [stepD, wanted]
  cases evalOp r env h op <;> rfl
theorem d_a (ix dst op) : stepD r ⟨ix, .a, ⟨dst, none, op⟩⟩ env hs h = madeK dst env hs (evalOp r env h op) := by
  simp only [stepD, wanted]
  cases evalOp r env h op <;> rfl
theorem d_e (ix dst op) : stepD r ⟨ix, .e, ⟨dst, none, op⟩⟩ env hs h = wroteK dst env hs (evalOp r env h op) := by
  simp only [stepD, wanted]
  cases evalOp r env h op <;> rfl
theorem d_r (ix k dst op h0 hs) : stepD r ⟨ix, .r k, ⟨dst, none, op⟩⟩ env (h0 :: hs) h = readK r dst op env k (h0 :: hs) hs h (evalOp r env h0 op) := by
  simp only [stepD, wanted]
  cases evalOp r env h0 op with
  | no w => rfl
  | ok v h' => simp only [readK]; cases recheck r env op v k hs <;> rfl
theorem d_w (ix cls dst p b op) : stepD r ⟨ix, cls, ⟨dst, some (p, b), op⟩⟩ env hs h = stepW r ix cls dst op env hs h (wanted env (some (p, b))) := by
  simp only [stepD]
  cases hw : wanted env (some (p, b)) with
  | none => rfl
  | some c =>
    cases c with
    | false => cases cls <;> rfl
    | true =>
      simp only [stepW, stepD, wanted]
theorem rc_0 (op v) : recheck r env op v 0 hs = true := by simp only [recheck]
theorem rc_s (op v k) : recheck r env op v (k + 1) (h :: hs) = recheckK' r env op v k hs (evalOp r env h op) := by
  simp only [recheck]
  cases evalOp r env h op with
  | no w => rfl
  | ok u h' => simp only [recheckK']; cases beqAV v u <;> rfl
end

/-! code -/
def regY : R Env → R (AExit × Env)
  | .ok env h => .ok (.normal, env) h
  | .no w => .no w
def drawnY : R (Env × List Heap) → R (AExit × Env)
  | .ok (env, _) h => .ok (.normal, env) h
  | .no w => .no w
def seqY (r : Rec) (b : ACode) : R (AExit × Env) → R (AExit × Env)
  | .ok (.normal, env) h => evalCode r b env h
  | res => res
def condY (r : Rec) (a b : ACode) (env : Env) (h : Heap) : AV → R (AExit × Env)
  | .bool true => evalCode r a env h
  | .bool false => evalCode r b env h
  | _ => .no 100
def blockIf (id : Nat) (env : Env) (h : Heap) : Bool → R (AExit × Env)
  | true => .ok (.normal, env) h
  | false => .ok (.exit id, env) h
def blockY (id : Nat) : R (AExit × Env) → R (AExit × Env)
  | .ok (.exit id', env) h => blockIf id' env h (Nat.beq id id')
  | res => res
def loopY (r : Rec) (c : ACode) : R (AExit × Env) → R (AExit × Env)
  | .ok (.normal, env) h => r.loop c env h
  | res => res
section
variable (r : Rec) (env : Env) (h : Heap)
theorem c_skip : evalCode r .skip env h = .ok (.normal, env) h := by simp only [evalCode]
theorem c_region (ops) : evalCode r (.region ops) env h = regY (evalOps r ops env h) := by
  simp only [evalCode]; cases evalOps r ops env h <;> rfl
theorem c_drawn (l) : evalCode r (.drawn l) env h = drawnY (evalD r l env [h] h) := by
  simp only [evalCode]
  cases evalD r l env [h] h with
  | no w => rfl
  | ok a h' => cases a; rfl
theorem c_seq (a b) : evalCode r (.seq a b) env h = seqY r b (evalCode r a env h) := by
  simp only [evalCode]
  cases evalCode r a env h with
  | no w => rfl
  | ok x h' => cases x with | mk e v => cases e <;> rfl
theorem c_cond (c a b) : evalCode r (.cond c a b) env h = condY r a b env h (val env.tmps c) := by
  simp only [evalCode]
  cases val env.tmps c <;> (try rfl)
theorem c_block (id c) : evalCode r (.block id c) env h = blockY id (evalCode r c env h) := by
  simp only [evalCode]
  cases evalCode r c env h with
  | no w => rfl
  | ok x h' => cases x with
    | mk e v => cases e with
      | normal => rfl
      | ret => rfl
      | exit i => simp only [blockY]; cases Nat.beq id i <;> rfl
theorem c_loop (c) : evalCode r (.loop c) env h = loopY r c (evalCode r c env h) := by
  simp only [evalCode]
  cases evalCode r c env h with
  | no w => rfl
  | ok x h' => cases x with | mk e v => cases e <;> rfl
theorem c_exit (id) : evalCode r (.exit id) env h = .ok (.exit id, env) h := by simp only [evalCode]
theorem c_scope (c) : evalCode r (.scope c) env h = evalCode r c env h := by simp only [evalCode]
theorem c_ret : evalCode r .ret env h = .ok (.ret, env) h := by simp only [evalCode]
end

/-! calls -/
def resOf (h : Heap) : Option (List AV) → R AV
  | some [v] => .ok v h
  | some vs => .ok (.tup vs) h
  | none => .no 131
def deferK' (rs : List ARes) (env : PT AV) : R Unit → R AV
  | .ok _ h => resOf h (evalResults env h rs)
  | .no w => .no w
def bodyK (r : Rec) (rs : List ARes) : R (AExit × Env) → R AV
  | .ok (.exit _, _) _ => .no 130
  | .ok (_, env) h => deferK' rs env.tmps (evalDefers r env.defers h)
  | .no w => .no w
def callK (r : Rec) (args : List AV) (h : Heap) (f : Pos) : Option AFunc → R AV
  | none => .no (1000 + f.idx)
  | some fn => bodyK r fn.results (evalCode r fn.body ⟨setArgs args .H .E, [], none⟩ h)
def resC (n : Option Nat) (off : Nat) : Option AObj → Option AV
  | some (.cells cs _) => match n with
    | none => nth cs off
    | some k => match takeX (dropX cs off) k with
      | some l => some (.agg l)
      | none => none
  | _ => none
def resV (h : Heap) (n : Option Nat) : AV → Option AV
  | .ptr b off => resC n off (h.get b)
  | _ => none
def resL (v : Option AV) (l : Option (List AV)) : Option (List AV) :=
  match v, l with
  | some v, some r => some (v :: r)
  | _, _ => none
theorem call_eq (P r f args h) : evalCall P r f args h = callK r args h f (P.get f) := by
  simp only [evalCall]
  cases P.get f with
  | none => rfl
  | some fn =>
    simp only [callK]
    cases evalCode r fn.body ⟨setArgs args .H .E, [], none⟩ h with
    | no w => rfl
    | ok x h1 =>
      cases x with
      | mk e env =>
        cases e with
        | exit i => rfl
        | normal =>
          simp only [bodyK]
          cases evalDefers r env.defers h1 with
          | no w => rfl
          | ok u h2 =>
            simp only [deferK']
            cases evalResults env.tmps h2 fn.results with
            | none => rfl
            | some l => cases l with
              | nil => rfl
              | cons a l => cases l <;> rfl
        | ret =>
          simp only [bodyK]
          cases evalDefers r env.defers h1 with
          | no w => rfl
          | ok u h2 =>
            simp only [deferK']
            cases evalResults env.tmps h2 fn.results with
            | none => rfl
            | some l => cases l with
              | nil => rfl
              | cons a l => cases l <;> rfl
theorem fix_call (P n f args h) : (fix P (n + 1)).call f args h = callK (fix P n) args h f (P.get f) := call_eq P (fix P n) f args h
theorem fix_loop (P n c env h) : (fix P (n + 1)).loop c env h = evalCode (fix P n) (.loop c) env h := rfl
theorem fix_yield (P n l args h) : (fix P (n + 1)).yield l args h = evalYield (fix P n) l args h := rfl
theorem res_tmp (env h p) : evalResult env h (.tmp p) = some (val env (.t p)) := rfl
theorem res_cell (env : PT AV) (h p n) : evalResult env h (.cell p n) = resV h n (val env (.t p)) := by
  simp only [evalResult]
  cases val env (.t p) <;> try rfl
theorem ress_nil (env h) : evalResults env h [] = some [] := by simp only [evalResults]
theorem ress_cons (env h x l) : evalResults env h (x :: l) = resL (evalResult env h x) (evalResults env h l) := by
  simp only [evalResults]
  cases evalResult env h x <;> cases evalResults env h l <;> rfl

/-! values -/
theorem val_t (env : PT AV) (p) : val env (.t p) = getV (PT.get p env) := by
  simp only [val]; cases PT.get p env <;> rfl
theorem val_c (env : PT AV) (v) : val env (.c v) = v := rfl
theorem want_eq (env : Env) (p b) : wanted env (some (p, b)) = wantO b (getV (PT.get p env.tmps)) := by
  simp only [wanted]
  cases PT.get p env.tmps with
  | none => rfl
  | some v => cases v <;> rfl

/-! range over a function -/
def rfOut (env1 : Env) (l : Pos) (h : Heap) : Option AObj → R (AExit × Env)
  | some (.loop .ready pending _ _ _ _ _) => .ok (pending, env1) (h.del l)
  | some (.loop .done pending _ _ _ _ _) => .ok (pending, env1) (h.del l)
  | some (.loop .exhausted pending _ _ _ _ _) => .ok (pending, env1) (h.del l)
  | some (.loop .busy _ _ _ _ _ _) => .no 103
  | _ => .no 104
end Go.Am

/- Numbers, comparisons, lists: equations; and the sets of equations for simp. -/
namespace Go.Am

def guardO (r : Rec) (dst : Option Pos) (op : AOp) (ops : List AOper) (env : Env) (h : Heap) : Option Bool → R Env
  | some true => evalOps r (⟨dst, none, op⟩ :: ops) env h
  | some false => evalOps r ops (putV dst (.tup []) env) h
  | none => .no 116
theorem ops_g (r : Rec) (dst : Option Pos) (op : AOp) (ops : List AOper) (env : Env) (h : Heap) (p : Pos) (b : Bool) :
    evalOps r (⟨dst, some (p, b), op⟩ :: ops) env h = guardO r dst op ops env h (wantO b (getV (PT.get p env.tmps))) := by
  rw [← want_eq]
  cases hw : wanted env (some (p, b)) with
  | none => simp only [evalOps, hw, guardO]
  | some c => cases c <;> simp only [evalOps, hw, guardO, show wanted env none = some true from rfl]
theorem d_g (r : Rec) (env : Env) (h : Heap) (hs : List Heap) (ix cls dst p b op) : stepD r ⟨ix, cls, ⟨dst, some (p, b), op⟩⟩ env hs h = stepW r ix cls dst op env hs h (wantO b (getV (PT.get p env.tmps))) := by
  rw [← want_eq]; exact d_w r env h hs ix cls dst p b op

class NotDef (op : AOp) : Prop where
  out : op.isDefer = false
theorem nd_move (a) : NotDef (.move a) := ⟨rfl⟩
attribute [instance] nd_move
theorem nd_pick (a b c) : NotDef (.pick a b c) := ⟨rfl⟩
attribute [instance] nd_pick
theorem nd_alloc (a) : NotDef (.alloc a) := ⟨rfl⟩
attribute [instance] nd_alloc
theorem nd_box (a) : NotDef (.box a) := ⟨rfl⟩
attribute [instance] nd_box
theorem nd_build (a b) : NotDef (.build a b) := ⟨rfl⟩
attribute [instance] nd_build
theorem nd_buildSlice (a b c) : NotDef (.buildSlice a b c) := ⟨rfl⟩
attribute [instance] nd_buildSlice
theorem nd_load (a b) : NotDef (.load a b) := ⟨rfl⟩
attribute [instance] nd_load
theorem nd_store (a b c) : NotDef (.store a b c) := ⟨rfl⟩
attribute [instance] nd_store
theorem nd_nilCheck (a) : NotDef (.nilCheck a) := ⟨rfl⟩
attribute [instance] nd_nilCheck
theorem nd_bin (a b c) : NotDef (.bin a b c) := ⟨rfl⟩
attribute [instance] nd_bin
theorem nd_not (a) : NotDef (.not a) := ⟨rfl⟩
attribute [instance] nd_not
theorem nd_neg (a) : NotDef (.neg a) := ⟨rfl⟩
attribute [instance] nd_neg
theorem nd_conv (a b) : NotDef (.conv a b) := ⟨rfl⟩
attribute [instance] nd_conv
theorem nd_mkfn (a b c) : NotDef (.mkfn a b c) := ⟨rfl⟩
attribute [instance] nd_mkfn
theorem nd_fieldAddr (a b) : NotDef (.fieldAddr a b) := ⟨rfl⟩
attribute [instance] nd_fieldAddr
theorem nd_field (a b c) : NotDef (.field a b c) := ⟨rfl⟩
attribute [instance] nd_field
theorem nd_indexArr (a b c d) : NotDef (.indexArr a b c d) := ⟨rfl⟩
attribute [instance] nd_indexArr
theorem nd_indexSl (a b c) : NotDef (.indexSl a b c) := ⟨rfl⟩
attribute [instance] nd_indexSl
theorem nd_extract (a b) : NotDef (.extract a b) := ⟨rfl⟩
attribute [instance] nd_extract
theorem nd_call (a b) : NotDef (.call a b) := ⟨rfl⟩
attribute [instance] nd_call
theorem nd_callv (a b) : NotDef (.callv a b) := ⟨rfl⟩
attribute [instance] nd_callv
theorem nd_append (a b c) : NotDef (.append a b c) := ⟨rfl⟩
attribute [instance] nd_append
theorem nd_lenSl (a) : NotDef (.lenSl a) := ⟨rfl⟩
attribute [instance] nd_lenSl
theorem nd_lenC (a b) : NotDef (.lenC a b) := ⟨rfl⟩
attribute [instance] nd_lenC
theorem nd_min (a b) : NotDef (.min a b) := ⟨rfl⟩
attribute [instance] nd_min
theorem nd_max (a b) : NotDef (.max a b) := ⟨rfl⟩
attribute [instance] nd_max
theorem nd_eqA (a b c) : NotDef (.eqA a b c) := ⟨rfl⟩
attribute [instance] nd_eqA
theorem nd_sliceSl (a b c d e) : NotDef (.sliceSl a b c d e) := ⟨rfl⟩
attribute [instance] nd_sliceSl
theorem nd_mkmap (a) : NotDef (.mkmap a) := ⟨rfl⟩
attribute [instance] nd_mkmap
theorem nd_insert (a b c d) : NotDef (.insert a b c d) := ⟨rfl⟩
attribute [instance] nd_insert
theorem nd_lookup (a b c d e) : NotDef (.lookup a b c d e) := ⟨rfl⟩
attribute [instance] nd_lookup
theorem nd_delete (a b c) : NotDef (.delete a b c) := ⟨rfl⟩
attribute [instance] nd_delete
theorem nd_lenMap (a) : NotDef (.lenMap a) := ⟨rfl⟩
attribute [instance] nd_lenMap
theorem nd_mkslice (a b c) : NotDef (.mkslice a b c) := ⟨rfl⟩
attribute [instance] nd_mkslice
theorem nd_copy (a b c) : NotDef (.copy a b c) := ⟨rfl⟩
attribute [instance] nd_copy
theorem nd_sliceStr (a b c) : NotDef (.sliceStr a b c) := ⟨rfl⟩
attribute [instance] nd_sliceStr
theorem nd_lenStr (a) : NotDef (.lenStr a) := ⟨rfl⟩
attribute [instance] nd_lenStr
theorem nd_indexStr (a b) : NotDef (.indexStr a b) := ⟨rfl⟩
attribute [instance] nd_indexStr
theorem nd_toStr (a) : NotDef (.toStr a) := ⟨rfl⟩
attribute [instance] nd_toStr
theorem nd_sliceArr (a b c d e f) : NotDef (.sliceArr a b c d e f) := ⟨rfl⟩
attribute [instance] nd_sliceArr
theorem nd_index (a b c d e) : NotDef (.index a b c d e) := ⟨rfl⟩
attribute [instance] nd_index
theorem nd_mkiface (a b) : NotDef (.mkiface a b) := ⟨rfl⟩
attribute [instance] nd_mkiface
theorem nd_indexByte (a b) : NotDef (.indexByte a b) := ⟨rfl⟩
attribute [instance] nd_indexByte
theorem nd_recover  : NotDef (.recover ) := ⟨rfl⟩
attribute [instance] nd_recover
theorem ops_c (r : Rec) (dst : Option Pos) (op : AOp) [hd : NotDef op] (ops : List AOper) (env : Env) (h : Heap) :
    evalOps r (⟨dst, none, op⟩ :: ops) env h = thenO r dst ops env (evalOp r env h op) := ops_cons _ _ _ _ _ _ hd.out
theorem eqI_self (x : Int) : eqI x x = true := by cases x <;> simp [eqI]
theorem beqN (a b : Nat) : Nat.beq a b = decide (a = b) := by
  rw [Bool.eq_iff_iff]
  exact ⟨fun h => decide_eq_true (Nat.eq_of_beq_eq_true h), fun h => by rw [of_decide_eq_true h]; exact Nat.beq_refl b⟩
theorem bleN (a b : Nat) : Nat.ble a b = decide (a ≤ b) := by
  rw [Bool.eq_iff_iff]
  exact ⟨fun h => decide_eq_true (Nat.le_of_ble_eq_true h), fun h => Nat.ble_eq_true_of_le (of_decide_eq_true h)⟩
theorem bltN (a b : Nat) : Nat.blt a b = decide (a < b) := bleN (a + 1) b
theorem eqI_iff (x y : Int) : eqI x y = decide (x = y) := by
  rw [Bool.eq_iff_iff]
  constructor
  · intro h
    cases x <;> cases y <;> simp only [eqI] at h
    · rw [Nat.eq_of_beq_eq_true h]; simp
    · cases h
    · cases h
    · rw [Nat.eq_of_beq_eq_true h]; simp
  · intro h
    have := of_decide_eq_true h
    subst this
    exact eqI_self x
theorem eq_nn (a b : Nat) : eqI (.ofNat a) (.ofNat b) = decide (a = b) := beqN a b
theorem lt_nn (a b : Nat) : ltI (.ofNat a) (.ofNat b) = decide (a < b) := bltN a b
theorem dlt {a b : Nat} (h : a < b) : decide (a < b) = true := decide_eq_true h
theorem dge {a b : Nat} (h : b ≤ a) : decide (a < b) = false := decide_eq_false (Nat.not_lt.2 h)
theorem dle {a b : Nat} (h : a ≤ b) : decide (a ≤ b) = true := decide_eq_true h
theorem dgt {a b : Nat} (h : b < a) : decide (a ≤ b) = false := decide_eq_false (Nat.not_le.2 h)
theorem deq {a b : Nat} (h : a = b) : decide (a = b) = true := decide_eq_true h
theorem dne {a b : Nat} (h : a ≠ b) : decide (a = b) = false := decide_eq_false h
theorem add_nn (a b : Nat) : Int.ofNat a + Int.ofNat b = Int.ofNat (a + b) := rfl
theorem sub_nn {a b : Nat} (h : b ≤ a) : Int.ofNat a - Int.ofNat b = Int.ofNat (a - b) := (Int.ofNat_sub h).symm
theorem mul_nn (a b : Nat) : Int.ofNat a * Int.ofNat b = Int.ofNat (a * b) := rfl
theorem eqKind_self (j : IntKind) : eqKind j j = true := by cases j <;> rfl
theorem binI_add (j x y) : binI .add j x j y = some (.int j (wrapI j (x + y))) := by simp only [binI, eqKind_self]
theorem binI_sub (j x y) : binI .sub j x j y = some (.int j (wrapI j (x - y))) := by simp only [binI, eqKind_self]
theorem binI_mul (j x y) : binI .mul j x j y = some (.int j (wrapI j (x * y))) := by simp only [binI, eqKind_self]
theorem binI_lss (j x y) : binI .lss j x j y = some (.bool (ltI x y)) := by simp only [binI, eqKind_self]
theorem binI_leq (j x y) : binI .leq j x j y = some (.bool (ltI y x).not) := by simp only [binI, eqKind_self]
theorem binI_gtr (j x y) : binI .gtr j x j y = some (.bool (ltI y x)) := by simp only [binI, eqKind_self]
theorem binI_geq (j x y) : binI .geq j x j y = some (.bool (ltI x y).not) := by simp only [binI, eqKind_self]
theorem binI_rem (j) {a b : Nat} (hb : 0 < b) : binI .rem j (.ofNat a) j (.ofNat b) = some (.int j (.ofNat (a % b))) := by
  have : eqI (.ofNat b) 0 = false := by
    show eqI (.ofNat b) (.ofNat 0) = false
    rw [eq_nn]; exact dne (by omega)
  simp only [binI, eqKind_self, this]
  rfl
theorem binI_quo (j) {a b : Nat} (hb : 0 < b) : binI .quo j (.ofNat a) j (.ofNat b) = some (.int j (wrapI j (.ofNat (a / b)))) := by
  have : eqI (.ofNat b) 0 = false := by
    show eqI (.ofNat b) (.ofNat 0) = false
    rw [eq_nn]; exact dne (by omega)
  simp only [binI, eqKind_self, this]
  rfl
def arith : ABin → Bool
  | .eq _ => false
  | .ne _ => false
  | _ => true
theorem bin_eq (q x y h) : bin (.eq q) x y h = boolV (same q x y) false h := rfl
theorem bin_ne (q x y h) : bin (.ne q) x y h = boolV (same q x y) true h := rfl
section
variable (j k : IntKind) (x y : Int) (h : Heap)
theorem bin_int (b : ABin) (hb : arith b = true) : bin b (.int j x) (.int k y) h = binV h (binI b j x k y) := by
  cases b <;> first | (simp [arith] at hb; done) | (simp only [bin, binV]; split <;> simp_all)
theorem bin_add : bin .add (.int j x) (.int k y) h = binV h (binI .add j x k y) := bin_int j k x y h _ rfl
theorem bin_sub : bin .sub (.int j x) (.int k y) h = binV h (binI .sub j x k y) := bin_int j k x y h _ rfl
theorem bin_mul : bin .mul (.int j x) (.int k y) h = binV h (binI .mul j x k y) := bin_int j k x y h _ rfl
theorem bin_quo : bin .quo (.int j x) (.int k y) h = binV h (binI .quo j x k y) := bin_int j k x y h _ rfl
theorem bin_rem : bin .rem (.int j x) (.int k y) h = binV h (binI .rem j x k y) := bin_int j k x y h _ rfl
theorem bin_lss : bin .lss (.int j x) (.int k y) h = binV h (binI .lss j x k y) := bin_int j k x y h _ rfl
theorem bin_leq : bin .leq (.int j x) (.int k y) h = binV h (binI .leq j x k y) := bin_int j k x y h _ rfl
theorem bin_gtr : bin .gtr (.int j x) (.int k y) h = binV h (binI .gtr j x k y) := bin_int j k x y h _ rfl
theorem bin_geq : bin .geq (.int j x) (.int k y) h = binV h (binI .geq j x k y) := bin_int j k x y h _ rfl
theorem bin_and : bin .and (.int j x) (.int k y) h = binV h (binI .and j x k y) := bin_int j k x y h _ rfl
theorem bin_or : bin .or (.int j x) (.int k y) h = binV h (binI .or j x k y) := bin_int j k x y h _ rfl
theorem bin_xor : bin .xor (.int j x) (.int k y) h = binV h (binI .xor j x k y) := bin_int j k x y h _ rfl
theorem bin_andNot : bin .andNot (.int j x) (.int k y) h = binV h (binI .andNot j x k y) := bin_int j k x y h _ rfl
theorem bin_shl : bin .shl (.int j x) (.int k y) h = binV h (binI .shl j x k y) := bin_int j k x y h _ rfl
theorem bin_shr : bin .shr (.int j x) (.int k y) h = binV h (binI .shr j x k y) := bin_int j k x y h _ rfl
theorem same_ii : same .int (.int j x) (.int j y) = some (eqI x y) := by simp only [same, eqKind_self]
end
theorem wrap64 {n : Nat} (h : n < 9223372036854775808) : wrapI .i64 (.ofNat n) = .ofNat n := by
  simp only [wrapI, bltN, dlt h]
theorem wrap8 {n : Nat} (h : n < 256) : wrapI .u8 (.ofNat n) = .ofNat n := by
  simp only [wrapI, bltN, dlt h]
theorem boolV_some (b neg h) : boolV (some b) neg h = .ok (.bool (bif neg then b.not else b)) h := by cases neg <;> rfl
theorem cond_t {α : Type} (a b : α) : (bif true then a else b) = a := rfl
theorem cond_f {α : Type} (a b : α) : (bif false then a else b) = b := rfl
theorem not_t : (!true) = false := rfl
theorem not_f : (!false) = true := rfl
theorem get_H {α : Type} (l : PT α) (o r) : PT.get .H (.N l o r) = o := rfl
theorem get_O {α : Type} (p) (l : PT α) (o r) : PT.get (.O p) (.N l o r) = PT.get p l := rfl
theorem get_I {α : Type} (p) (l : PT α) (o r) : PT.get (.I p) (.N l o r) = PT.get p r := rfl
theorem set_HE {α : Type} (v : α) : PT.set .H v .E = .N .E (some v) .E := rfl
theorem set_H {α : Type} (v : α) (l o r) : PT.set .H v (.N l o r) = .N l (some v) r := rfl
theorem set_OE {α : Type} (p) (v : α) : PT.set (.O p) v .E = .N (PT.set p v .E) none .E := rfl
theorem set_O {α : Type} (p) (v : α) (l o r) : PT.set (.O p) v (.N l o r) = .N (PT.set p v l) o r := rfl
theorem set_IE {α : Type} (p) (v : α) : PT.set (.I p) v .E = .N .E none (PT.set p v .E) := rfl
theorem set_I {α : Type} (p) (v : α) (l o r) : PT.set (.I p) v (.N l o r) = .N l o (PT.set p v r) := rfl
theorem putV_s (d v env) : putV (some d) v env = ⟨PT.set d v env.tmps, env.defers, env.round⟩ := rfl
theorem putV_n (v env) : putV none v env = env := rfl
theorem wa_0 (vs l) : writeAt 0 vs l = over vs l := by simp only [writeAt]
theorem wa_s (n vs x l) : writeAt (n + 1) vs (x :: l) = consO x (writeAt n vs l) := by
  simp only [writeAt]; cases writeAt n vs l <;> rfl
theorem ov_n (l) : over [] l = some l := by simp only [over]
theorem ov_c (v vs x l) : over (v :: vs) (x :: l) = consO v (over vs l) := by
  simp only [over]; cases over vs l <;> rfl
theorem nth_0 (v l) : nth (v :: l) 0 = some v := by simp only [nth]
theorem nth_s (v l n) : nth (v :: l) (n + 1) = nth l n := by simp only [nth]
theorem take_0 (l) : takeX l 0 = some [] := by cases l <;> simp only [takeX]
theorem take_s (v l n) : takeX (v :: l) (n + 1) = consO v (takeX l n) := by
  simp only [takeX]; cases takeX l n <;> rfl
theorem drop_0 (l) : dropX l 0 = l := by cases l <;> simp only [dropX]
theorem drop_s (v l n) : dropX (v :: l) (n + 1) = dropX l n := by simp only [dropX]
theorem len_n (n) : len [] n = n := rfl
theorem len_c (v l n) : len (v :: l) n = len l (n + 1) := rfl
def fillC (env : PT AV) (ps : List (Nat × Nat × AArg)) : Option (List AV) → Option (List AV)
  | some l => fillA env ps l
  | none => none
def fillB (env : PT AV) (ps : List (Nat × Nat × AArg)) (off : Nat) (vs l : List AV) : Bool → Option (List AV)
  | true => fillC env ps (writeAt off vs l)
  | false => none
def fillV (env : PT AV) (ps : List (Nat × Nat × AArg)) (off size : Nat) (l : List AV) : AV → Option (List AV)
  | .undef => none
  | a => fillB env ps off a.cells l (Nat.beq (len a.cells 0) size)
theorem fill_n (env l) : fillA env [] l = some l := by simp only [fillA]
theorem fill_c (env off size x ps l) : fillA env ((off, size, x) :: ps) l = fillV env ps off size l (val env x) := by
  simp only [fillA, fillV]
  cases val env x <;> (try rfl) <;> (simp only [fillB, fillC]; cases Nat.beq (len _ 0) size <;> (try rfl); simp only; cases writeAt off _ l <;> rfl)
theorem PT.y_ss {α : Type} : ∀ (p : Pos) (u v : α) (t : PT α), PT.set p v (PT.set p u t) = PT.set p v t
  | .H, _, _, .E => rfl
  | .H, _, _, .N _ _ _ => rfl
  | .O p, u, v, .E => congrArg (fun x => PT.N x none .E) (PT.y_ss p u v .E)
  | .O p, u, v, .N l o r => congrArg (fun x => PT.N x o r) (PT.y_ss p u v l)
  | .I p, u, v, .E => congrArg (fun x => PT.N .E none x) (PT.y_ss p u v .E)
  | .I p, u, v, .N l o r => congrArg (fun x => PT.N l o x) (PT.y_ss p u v r)
theorem upd_upd (h : Heap) (b o o') : (h.upd b o).upd b o' = h.upd b o' := by simp only [Heap.upd, PT.y_ss]
theorem new_upd (h : Heap) (o o') : (h.new o).upd h.next o' = h.new o' := by simp only [Heap.upd, Heap.new, PT.y_ss]
theorem get_new_eq (h : Heap) (o) {c : Pos} (hn : c.nat = h.next.nat) : (h.new o).get c = some o := by
  rw [Pos.nat_inj hn]; exact PT.y_gs _ _ _
theorem new_upd_eq (h : Heap) (o o') {c : Pos} (hn : c.nat = h.next.nat) : (h.new o).upd c o' = h.new o' := by
  rw [Pos.nat_inj hn]; exact new_upd h o o'

/-! rows of numbers -/
def ints (vs : List Int) : List AV := vs.map (AV.int .i64)
theorem ints_length (vs) : (ints vs).length = vs.length := List.length_map _
theorem nth_ints : ∀ {n : Nat} {vs : List Int} (m : List AV), n < vs.length → nth (ints vs ++ m) n = some (.int .i64 (vs.getD n 0))
  | _, [], _, h => absurd h (Nat.not_lt_zero _)
  | 0, _ :: _, _, _ => rfl
  | n + 1, v :: vs, m, h => (nth_s _ _ _).trans (nth_ints m (Nat.lt_of_succ_lt_succ h))
theorem nth_ints_tail : ∀ {n : Nat} {vs : List Int} (m : List AV), vs.length ≤ n → nth (ints vs ++ m) n = nth m (n - vs.length)
  | n, [], _, _ => rfl
  | 0, _ :: _, _, h => absurd h (Nat.not_succ_le_zero _)
  | n + 1, v :: vs, m, h => by
    rw [show ints (v :: vs) ++ m = .int .i64 v :: (ints vs ++ m) from rfl, nth_s, nth_ints_tail m (Nat.le_of_succ_le_succ h)]
    simp only [List.length_cons, Nat.add_sub_add_right]
theorem wa_ints : ∀ {n : Nat} {vs : List Int} (v : Int) (m : List AV), n < vs.length → writeAt n [.int .i64 v] (ints vs ++ m) = some (ints (vs.set n v) ++ m)
  | _, [], _, _, h => absurd h (Nat.not_lt_zero _)
  | 0, _ :: _, _, _, _ => rfl
  | n + 1, x :: vs, v, m, h => by
    rw [show ints (x :: vs) ++ m = .int .i64 x :: (ints vs ++ m) from rfl, wa_s, wa_ints v m (Nat.lt_of_succ_lt_succ h)]
    rfl
def appO (l : List AV) : Option (List AV) → Option (List AV)
  | some r => some (l ++ r)
  | none => none
theorem wa_ints_tail : ∀ {n : Nat} {vs : List Int} (ws m : List AV), vs.length ≤ n → writeAt n ws (ints vs ++ m) = appO (ints vs) (writeAt (n - vs.length) ws m)
  | n, [], ws, m, _ => by
    rw [show ints [] ++ m = m from rfl, List.length_nil, Nat.sub_zero]
    cases writeAt n ws m <;> rfl
  | 0, _ :: _, _, _, h => absurd h (Nat.not_succ_le_zero _)
  | n + 1, v :: vs, ws, m, h => by
    rw [show ints (v :: vs) ++ m = .int .i64 v :: (ints vs ++ m) from rfl, wa_s, wa_ints_tail ws m (Nat.le_of_succ_le_succ h)]
    simp only [List.length_cons, Nat.add_sub_add_right]
    cases writeAt (n - vs.length) ws m <;> rfl
theorem take_all : ∀ {n : Nat} (l : List AV), n = l.length → takeX l n = some l
  | _, [], rfl => rfl
  | _, v :: l, rfl => by rw [List.length_cons, take_s, take_all l rfl]; rfl
end Go.Am

/- Rounds over a function; frames that are not known whole; rows behind slices. -/
namespace Go.Am

theorem Pos.beq_self : ∀ p : Pos, Pos.beq p p = true
  | .H => rfl
  | .O p => Pos.beq_self p
  | .I p => Pos.beq_self p
theorem gsb {α : Type} (p q : Pos) (v : α) (t : PT α) : PT.get p (PT.set q v t) = bif Pos.beq p q then some v else PT.get p t := by
  cases h : Pos.beq p q with
  | true => rw [Pos.beq_eq h, PT.y_gs]; rfl
  | false =>
    rw [PT.y_gn]
    · rfl
    · intro e; rw [e, Pos.beq_self] at h; cases h

def rfCall (r : Rec) (y : AV) (h : Heap) : AV → R AV
  | .fn f first captured => r.call f (first ++ [y] ++ captured) h
  | _ => .no 102
def rfK (env1 : Env) (l : Pos) : R AV → R (AExit × Env)
  | .ok _ h2 => rfOut env1 l h2 (h2.get l)
  | .no w => .no w
theorem c_rangeFunc (r : Rec) (f params assign body tmps defers h) : evalCode r (.rangeFunc f params assign body) ⟨tmps, defers, none⟩ h
    = rfK ⟨tmps, .collected h.next :: defers, none⟩ h.next.succ (rfCall r (.yield h.next.succ) ((h.new .deferred).new (.loop .ready .normal tmps params assign body h.next)) (val tmps f)) := by
  simp only [evalCode]
  have e : (⟨(h.t.set h.next .deferred).set h.next.succ (.loop .ready .normal tmps params assign body h.next), h.next.succ.succ⟩ : Heap) = (h.new .deferred).new (.loop .ready .normal tmps params assign body h.next) := rfl
  rw [e]
  generalize (h.new .deferred).new (.loop .ready .normal tmps params assign body h.next) = h1
  cases val tmps f <;> simp only [rfCall, rfK]
  rename_i g a c
  cases r.call g (a ++ [AV.yield h.next.succ] ++ c) h1 with
  | no w => rfl
  | ok v h2 =>
    simp only [Heap.get]
    cases h2.t.get h.next.succ with
    | none => rfl
    | some o => cases o <;> try rfl
                rename_i st _ _ _ _ _ _
                cases st <;> rfl

def y6 (l : Pos) (h2 : Heap) : AExit → Option AObj → R AV
  | .normal, some (.loop _ _ t2 p2 a2 b2 d2) => .ok (.bool true) (h2.upd l (.loop .ready .normal t2 p2 a2 b2 d2))
  | .exit i, some (.loop _ _ t2 p2 a2 b2 d2) => .ok (.bool false) (h2.upd l (.loop .done (.exit i) t2 p2 a2 b2 d2))
  | .ret, some (.loop _ _ t2 p2 a2 b2 d2) => .ok (.bool false) (h2.upd l (.loop .done .ret t2 p2 a2 b2 d2))
  | _, _ => .no 110
def y5 (l : Pos) : R (AExit × Env) → R AV
  | .ok (ex, _) h2 => y6 l h2 ex (h2.get l)
  | .no w => .no w
def y4 (r : Rec) (l : Pos) (body : ACode) (env : Env) (h1 : Heap) : Option AObj → R AV
  | some (.loop .ready q1 t1 p1 a1 b1 d1) => y5 l (evalCode r body env (h1.upd l (.loop .busy q1 t1 p1 a1 b1 d1)))
  | _ => .no 111
def y3 (r : Rec) (l : Pos) (body : ACode) : R (AExit × Env) → R AV
  | .ok (.normal, env) h1 => y4 r l body env h1 (h1.get l)
  | .ok _ _ => .no 112
  | .no w => .no w
def y2 (r : Rec) (l : Pos) (assign body : ACode) (h : Heap) : Option (PT AV) → R AV
  | some tm => y3 r l body (evalCode r assign ⟨tm, [], some l⟩ h)
  | none => .no 113
def y1 (r : Rec) (l : Pos) (args : List AV) (h : Heap) : Option AObj → R AV
  | some (.loop .ready _ tmps params assign body _) => y2 r l assign body h (setParams params args tmps)
  | _ => .no 115
theorem yield_eq (r : Rec) (l args h) : evalYield r l args h = y1 r l args h (h.get l) := by
  simp only [evalYield, Heap.get]
  cases h.t.get l with
  | none => rfl
  | some o =>
    cases o <;> try rfl
    rename_i st q tmps params assign body d
    cases st <;> try rfl
    simp only [y1]
    cases setParams params args tmps with
    | none => rfl
    | some tm =>
      simp only [y2]
      cases evalCode r assign ⟨tm, [], some l⟩ h with
      | no w => rfl
      | ok x h1 =>
        cases x with
        | mk ex env =>
          cases ex <;> try rfl
          simp only [y3, Heap.get]
          cases h1.t.get l with
          | none => rfl
          | some o1 =>
            cases o1 <;> try rfl
            rename_i st1 q1 t1 p1 a1 b1 d1
            cases st1 <;> try rfl
            simp only [y4, Heap.upd]
            cases evalCode r body env ⟨h1.t.set l (.loop .busy q1 t1 p1 a1 b1 d1), h1.next⟩ with
            | no w => rfl
            | ok y h2 =>
              cases y with
              | mk ex2 env2 =>
                simp only [y5, Heap.get]
                cases h2.t.get l with
                | none => cases ex2 <;> rfl
                | some o2 => cases o2 <;> cases ex2 <;> rfl
theorem setP_n (e) : setParams [] [] e = some e := by simp only [setParams]
theorem setP_c (p ps v vs e) : setParams (p :: ps) (v :: vs) e = setParams ps vs (PT.set p v e) := by simp only [setParams]
def defC (r : Rec) (b : Pos) (ds : List ADef) (h : Heap) : Option AObj → R Unit
  | some .deferred => evalDefers r ds (h.del b)
  | _ => .no 120
theorem def_c (r b ds h) : evalDefers r (.collected b :: ds) h = defC r b ds h (h.get b) := by
  simp only [evalDefers, Heap.get]
  cases h.t.get b with
  | none => rfl
  | some o => cases o <;> rfl
theorem def_n (r h) : evalDefers r [] h = .ok () h := by simp only [evalDefers]

theorem len_ints : ∀ (vs : List Int) (m n), len (ints vs ++ m) n = len m (n + vs.length)
  | [], m, n => rfl
  | v :: vs, m, n => by
    rw [show ints (v :: vs) ++ m = .int .i64 v :: (ints vs ++ m) from rfl, len_c, len_ints vs m]
    simp only [List.length_cons]; congr 1; omega
theorem all_ints : ∀ (vs : List Int) (m), allCells (ints vs ++ m) = allCells m
  | [], m => rfl
  | v :: vs, m => by
    rw [show ints (v :: vs) ++ m = .int .i64 v :: (ints vs ++ m) from rfl]
    simp only [allCells, AV.isCell, all_ints vs m]
theorem over_all : ∀ {vs l : List AV}, vs.length = l.length → over vs l = some vs
  | [], [], _ => rfl
  | [], _ :: _, h => by simp at h
  | _ :: _, [], h => by simp at h
  | v :: vs, x :: l, h => by rw [ov_c, over_all (vs := vs) (l := l) (by simpa using h)]; rfl

theorem los_n : lenOfSlice .nilslice = some 0 := rfl
theorem los_s (b o l c) : lenOfSlice (.slice b o l c) = some l := rfl
def cosK (off k : Nat) : Option AObj → Option (List AV)
  | some (.cells cs _) => takeX (dropX cs off) k
  | _ => none
theorem cos_n (size h) : cellsOfSlice size h .nilslice = some [] := rfl
theorem cos_s (size h b off l c) : cellsOfSlice size h (.slice b off l c) = cosK off (l * size) (h.get b) := by
  simp only [cellsOfSlice, Heap.get]
  cases h.t.get b with
  | none => rfl
  | some o => cases o <;> rfl

/-! rows of numbers behind slices -/
def IsInts (h : Heap) (s : AV) (vs : List Int) : Prop :=
  (s = .nilslice ∧ vs = []) ∨ ∃ b off cap cs sp, s = .slice b off vs.length cap ∧ h.get b = some (.cells cs sp) ∧ takeX (dropX cs off) vs.length = some (ints vs)

theorem nth_drop : ∀ (cs : List AV) (off i : Nat), nth (dropX cs off) i = nth cs (off + i)
  | cs, 0, i => by rw [drop_0, Nat.zero_add]
  | [], off + 1, i => by simp only [dropX]; cases i <;> (simp only [nth]; try rfl) <;> (cases h : off + 1 + _ <;> simp only [nth])
  | v :: cs, off + 1, i => by rw [drop_s, nth_drop cs off i, show off + 1 + i = (off + i) + 1 by omega, nth_s]
theorem nth_take : ∀ {n : Nat} {cs l : List AV}, takeX cs n = some l → ∀ {i : Nat}, i < n → nth cs i = nth l i
  | 0, _, _, _, _, hi => absurd hi (Nat.not_lt_zero _)
  | n + 1, [], l, h, i, _ => by simp [takeX] at h
  | n + 1, v :: cs, l, h, i, hi => by
    rw [take_s] at h
    cases hr : takeX cs n with
    | none => rw [hr] at h; simp [consO] at h
    | some l' =>
      rw [hr] at h
      simp only [consO, Option.some.injEq] at h
      subst h
      cases i with
      | zero => rfl
      | succ i => rw [nth_s, nth_s, nth_take hr (by omega)]
theorem nth_int {i : Nat} {vs : List Int} (h : i < vs.length) : nth (ints vs) i = some (.int .i64 (vs.getD i 0)) := by
  have := nth_ints (n := i) (vs := vs) [] h
  rwa [List.append_nil] at this
theorem IsInts.load {cs : List AV} {off : Nat} {vs : List Int} (h : takeX (dropX cs off) vs.length = some (ints vs)) {i : Nat} (hi : i < vs.length) : nth cs (off + i) = some (.int .i64 (vs.getD i 0)) := by
  rw [← nth_drop, nth_take h hi, nth_int hi]

theorem ints_app (a b : List Int) : ints (a ++ b) = ints a ++ ints b := List.map_append
theorem app_nil (k : Nat) (new : List AV) (h : Heap) : appendA k .nilslice 1 new h = .ok (.slice h.next 0 1 (.o k)) (h.new (.cells new (some k))) := rfl
theorem len_y : ∀ (l : List AV) (n : Nat), len l n = n + l.length
  | [], n => rfl
  | v :: l, n => by rw [len_c, len_y l]; simp only [List.length_cons]; omega
def apo2 (k : Nat) (p : Pos) (off l n : Nat) (cs new : List AV) (h : Heap) : Bool → Bool → Bool → R AV
  | true, true, true => .ok (.slice h.next 0 (l + (n + 1)) (.o k)) ((h.del p).new (.cells (dropX cs off ++ new) (some k)))
  | _, _, _ => .no 12
def apo (k : Nat) (p : Pos) (off l e n : Nat) (new : List AV) (h : Heap) : Option AObj → R AV
  | some (.cells cs (some _)) => apo2 k p off l n cs new h (Nat.beq (off + l * k) (len cs 0)) (Nat.beq e k) (Nat.ble (l + (n + 1)) growMost)
  | some (.cells _ none) => .no 12
  | _ => .no 13
theorem app_sl_o (k p off l e n new h) : appendA k (.slice p off l (.o e)) (n + 1) new h = apo k p off l e n new h (h.get p) := by
  simp only [appendA, Heap.get]
  cases h.t.get p with
  | none => rfl
  | some o =>
    cases o <;> try rfl
    rename_i cs sp
    cases sp with
    | none => simp only [apo]; cases Nat.beq (off + l * k) (len cs 0) <;> cases Nat.beq e k <;> cases Nat.ble (l + (n + 1)) growMost <;> rfl
    | some x => simp only [apo]; cases Nat.beq (off + l * k) (len cs 0) <;> cases Nat.beq e k <;> cases Nat.ble (l + (n + 1)) growMost <;> rfl
def apcW (p : Pos) (off l n c : Nat) (sp : Option Nat) (h : Heap) : Option (List AV) → R AV
  | some cs' => .ok (.slice p off (l + n) (.c c)) (h.upd p (.cells cs' sp))
  | none => .no 10
def apc3 (k l n : Nat) (new : List AV) (h : Heap) : Option (List AV) → Bool → R AV
  | some old, true => .ok (.slice h.next 0 (l + n) (.o k)) (h.new (.cells (old ++ new) (some k)))
  | _, _ => .no 11
def apc2 (k : Nat) (p : Pos) (off l n c : Nat) (cs : List AV) (sp : Option Nat) (new : List AV) (h : Heap) : Bool → R AV
  | true => apcW p off l n c sp h (writeAt (off + l * k) new cs)
  | false => apc3 k l n new h (takeX (dropX cs off) (l * k)) (Nat.ble (l + n) growMost)
def apc (k : Nat) (p : Pos) (off l c n : Nat) (new : List AV) (h : Heap) : Option AObj → R AV
  | some (.cells cs sp) => apc2 k p off l n c cs sp new h (Nat.ble (l + n) c)
  | _ => .no 13
theorem app_sl_c (k p off l c n new h) : appendA k (.slice p off l (.c c)) n new h = apc k p off l c n new h (h.get p) := by
  simp only [appendA, Heap.get]
  cases h.t.get p with
  | none => rfl
  | some o => cases o <;> rfl
theorem app_nil0 (k : Nat) (new : List AV) (h : Heap) : appendA k .nilslice 0 new h = .ok .nilslice h := rfl
theorem len_ints0 (vs : List Int) (n) : len (ints vs) n = n + vs.length := by rw [len_y, ints_length]
theorem all_ints0 (vs : List Int) : allCells (ints vs) = true := by
  have := all_ints vs []
  rw [List.append_nil] at this
  rw [this]; rfl

/-- A row that grows: nothing yet, or a block of its own from some place on. -/
def App (h : Heap) (lo : Nat) (s : AV) (vs : List Int) : Prop :=
  (s = .nilslice ∧ vs = []) ∨ ∃ p : Pos, lo ≤ p.nat ∧ p.nat < h.next.nat ∧ s = .slice p 0 vs.length (.o 1) ∧ h.get p = some (.cells (ints vs) (some 1))
end Go.Am

