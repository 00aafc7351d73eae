/- An abstract machine for Go code and its soundness over the model; no condition of its own. Used by the proof that the law TopScheduled returns true at every input. -/
import Derived.Test.YtofefignkpmlbaaGreatAmE
namespace Go.Am

noncomputable def putR (dst : Option Pos) (v : AV) (env : Env) : Env :=
  match dst with
  | some d => ⟨PT.setR d v env.tmps, env.defers, env.round⟩
  | none => env

theorem putR_eq (dst : Option Pos) (v : AV) (env : Env) : putR dst v env = putV dst v env := by
  cases dst with
  | none => rfl
  | some d => simp only [putR, putV, PT.setR_eq]

noncomputable def wantedR (env : Env) : Option (Pos × Bool) → Option Bool
  | none => some true
  | some (p, want) => match PT.getR p env.tmps with
    | some (.bool b) => some (eqBool b want)
    | some (.tup _) => some false
    | _ => none

theorem wantedR_eq (env : Env) (g : Option (Pos × Bool)) : wantedR env g = wanted env g := by
  cases g with
  | none => rfl
  | some x =>
    simp only [wantedR, wanted, PT.getR_eq]
    rfl

noncomputable def thenK (o : AOper) (env : Env) (k : Env → Heap → R Env) : R AV → R Env
  | .ok v h => k (putR o.dst v env) h
  | .no why => .no why

theorem thenK_eq (o : AOper) (env : Env) (k : Env → Heap → R Env) (z : R AV) : thenK o env k z = (match z with
        | .ok v h' => k (putV o.dst v env) h'
        | .no why => .no why) := by
  cases z with
  | no w => rfl
  | ok v h => simp only [thenK, putR_eq]

noncomputable def deferK (o : AOper) (env : Env) (h : Heap) (k : Env → Heap → R Env) (x : AArg) (args : List AArg) : R Env :=
  match env.round, valR env.tmps x with
  | none, .fn f first captured => k (putR o.dst (.tup []) ⟨env.tmps, .call f (first ++ valsR env.tmps args ++ captured) :: env.defers, none⟩) h
  | _, _ => .no 95

noncomputable def doK (r : Rec) (o : AOper) (env : Env) (h : Heap) (k : Env → Heap → R Env) : AOp → R Env
  | .defer x args => deferK o env h k x args
  | op => thenK o env k (evalOpK r env h op)

noncomputable def stepK (r : Rec) (o : AOper) (env : Env) (h : Heap) (k : Env → Heap → R Env) : Option Bool → R Env
  | some true => doK r o env h k o.op
  | some false => k (putR o.dst (.tup []) env) h
  | none => .no 116

noncomputable def evalOpsK (r : Rec) (ops : List AOper) : Env → Heap → R Env :=
  @List.rec AOper (fun _ => Env → Heap → R Env) (fun env h => .ok env h) (fun o _ ih env h => stepK r o env h ih (wantedR env o.guard)) ops

theorem evalOpsK_cons (r : Rec) (o : AOper) (ops : List AOper) (env : Env) (h : Heap) : evalOpsK r (o :: ops) env h = stepK r o env h (evalOpsK r ops) (wantedR env o.guard) := rfl

theorem evalOpsK_eq (r : Rec) : ∀ (ops : List AOper) (env : Env) (h : Heap), evalOpsK r ops env h = evalOps r ops env h
  | [], _, _ => rfl
  | o :: ops, env, h => by
    have ih : evalOpsK r ops = evalOps r ops := by funext e h; exact evalOpsK_eq r ops e h
    simp only [evalOpsK_cons, evalOps, ih, wantedR_eq]
    cases wanted env o.guard with
    | none => rfl
    | some b =>
      cases b with
      | false => simp only [stepK, putR_eq]
      | true =>
        simp only [stepK]
        cases o.op <;> simp only [doK, deferK, evalOpK_eq, thenK_eq, putR_eq, valR_eq, valsR_eq] <;> rfl

noncomputable def skipD (x : DItem) (env : Env) (hs : List Heap) (h : Heap) : DCls → R (Env × List Heap)
  | .e => .ok (putR x.o.dst (.tup []) env, h :: hs) h
  | _ => .ok (putR x.o.dst (.tup []) env, hs) h

noncomputable def recheckK (r : Rec) (env : Env) (op : AOp) (v : AV) : Nat → List Heap → Bool
  | 0, _ => true
  | _ + 1, [] => false
  | k + 1, h :: hs => match evalOpK r env h op with
    | .ok u _ => match beqAV v u with
      | true => recheckK r env op v k hs
      | false => false
    | .no _ => false

theorem recheckK_eq (r : Rec) (env : Env) (op : AOp) (v : AV) : ∀ (k : Nat) (hs : List Heap), recheckK r env op v k hs = recheck r env op v k hs
  | 0, _ => by simp [recheckK, recheck]
  | _ + 1, [] => by simp [recheckK, recheck]
  | k + 1, h :: hs => by
    simp only [recheckK, recheck, evalOpK_eq, recheckK_eq r env op v k hs]
    rfl

noncomputable def wroteD (x : DItem) (env : Env) (hs : List Heap) : R AV → R (Env × List Heap)
  | .ok v h' => .ok (putR x.o.dst v env, h' :: hs) h'
  | .no w => .no w

noncomputable def madeD (x : DItem) (env : Env) (hs : List Heap) : R AV → R (Env × List Heap)
  | .ok v h' => .ok (putR x.o.dst v env, hs) h'
  | .no w => .no w

theorem wroteD_eq (x : DItem) (env : Env) (hs : List Heap) (z : R AV) : wroteD x env hs z = (match z with
      | .ok v h' => .ok (putV x.o.dst v env, h' :: hs) h'
      | .no w => .no w) := by
  cases z with
  | no w => rfl
  | ok v h => simp only [wroteD, putR_eq]

theorem madeD_eq (x : DItem) (env : Env) (hs : List Heap) (z : R AV) : madeD x env hs z = (match z with
      | .ok v h' => .ok (putV x.o.dst v env, hs) h'
      | .no w => .no w) := by
  cases z with
  | no w => rfl
  | ok v h => simp only [madeD, putR_eq]

noncomputable def readD (r : Rec) (x : DItem) (env : Env) (h : Heap) (k : Nat) : List Heap → R (Env × List Heap)
  | h0 :: hs' => match evalOpK r env h0 x.o.op with
    | .ok v _ => match recheckK r env x.o.op v k hs' with
      | true => .ok (putR x.o.dst v env, h0 :: hs') h
      | false => .no 105
    | .no w => .no w
  | [] => .no 18

noncomputable def doD (r : Rec) (x : DItem) (env : Env) (hs : List Heap) (h : Heap) : DCls → R (Env × List Heap)
  | .e => wroteD x env hs (evalOpK r env h x.o.op)
  | .r k => readD r x env h k hs
  | _ => madeD x env hs (evalOpK r env h x.o.op)

noncomputable def stepDK (r : Rec) (x : DItem) (env : Env) (hs : List Heap) (h : Heap) : R (Env × List Heap) :=
  match wantedR env x.o.guard with
  | none => .no 117
  | some false => skipD x env hs h x.cls
  | some true => doD r x env hs h x.cls

theorem stepDK_eq (r : Rec) (x : DItem) (env : Env) (hs : List Heap) (h : Heap) : stepDK r x env hs h = stepD r x env hs h := by
  unfold stepDK stepD
  simp only [wantedR_eq]
  cases wanted env x.o.guard with
  | none => rfl
  | some b =>
    cases b with
    | false => cases x.cls <;> simp only [skipD, putR_eq]
    | true =>
      cases x.cls <;> simp only [doD, wroteD_eq, madeD_eq, readD, evalOpK_eq]
      case r k =>
        cases hs with
        | nil => rfl
        | cons h0 hs' =>
          simp only [recheckK_eq, putR_eq]
          rfl
      all_goals rfl

noncomputable def evalDK (r : Rec) : List DItem → Env → List Heap → Heap → R (Env × List Heap)
  | [], env, hs, h => .ok (env, hs) h
  | x :: l, env, hs, h => match stepDK r x env hs h with
    | .ok (env', hs') h' => evalDK r l env' hs' h'
    | .no w => .no w

theorem evalDK_eq (r : Rec) : ∀ (l : List DItem) (env : Env) (hs : List Heap) (h : Heap), evalDK r l env hs h = evalD r l env hs h
  | [], _, _, _ => rfl
  | x :: l, env, hs, h => by
    have ih : evalDK r l = evalD r l := by funext a b c; exact evalDK_eq r l a b c
    simp only [evalDK, evalD, stepDK_eq, ih]
    rfl

end Go.Am

namespace Go.Am

noncomputable def regionK : R Env → R (AExit × Env)
  | .ok env' h' => .ok (.normal, env') h'
  | .no w => .no w

noncomputable def drawnK : R (Env × List Heap) → R (AExit × Env)
  | .ok (env', _) h' => .ok (.normal, env') h'
  | .no w => .no w

noncomputable def seqK (k : Env → Heap → R (AExit × Env)) : R (AExit × Env) → R (AExit × Env)
  | .ok (.normal, env') h' => k env' h'
  | res => res

noncomputable def condK (a b : Env → Heap → R (AExit × Env)) (env : Env) (h : Heap) : AV → R (AExit × Env)
  | .bool true => a env h
  | .bool false => b env h
  | _ => .no 100

noncomputable def blockK (id : Nat) : R (AExit × Env) → R (AExit × Env)
  | .ok (.exit id', env') h' => match Nat.beq id id' with
    | true => .ok (.normal, env') h'
    | false => .ok (.exit id', env') h'
  | res => res

noncomputable def rangeK2 (l : Pos) (env1 : Env) : R AV → R (AExit × Env)
  | .ok _ h2 => match h2.t.get l with
    | some (.loop st pending ..) => match st with
      | .busy => .no 103
      | _ => .ok (pending, env1) ⟨h2.t.rem l, h2.next⟩
    | _ => .no 104
  | .no w => .no w

theorem rangeK2_eq (l : Pos) (env1 : Env) (z : R AV) : rangeK2 l env1 z = (match z with
      | .ok _ h2 => match h2.t.get l with
        | some (.loop st pending ..) => match st with
          | .busy => .no 103
          | _ => .ok (pending, env1) ⟨h2.t.rem l, h2.next⟩
        | _ => .no 104
      | .no w => .no w) := by
  cases z <;> rfl

noncomputable def rangeK1 (r : Rec) (f : AArg) (params : List Pos) (assign body : ACode) (env : Env) (h : Heap) (d l : Pos) : R (AExit × Env) :=
  rangeK2 l ⟨env.tmps, .collected d :: env.defers, env.round⟩ (match val env.tmps f with
    | .fn f first captured => r.call f (first ++ [AV.yield l] ++ captured) ⟨(h.t.set d .deferred).set l (.loop .ready .normal env.tmps params assign body d), l.succ⟩
    | _ => .no 102)

noncomputable def rangeK (r : Rec) (f : AArg) (params : List Pos) (assign body : ACode) (env : Env) (h : Heap) : R (AExit × Env) :=
  match env.round with
  | some _ => .no 101
  | none => rangeK1 r f params assign body env h h.next h.next.succ

noncomputable def evalCodeK (r : Rec) (c : ACode) : Env → Heap → R (AExit × Env) :=
  @ACode.rec (fun _ => Env → Heap → R (AExit × Env)) (fun env h => .ok (.normal, env) h) (fun ops env h => regionK (evalOpsK r ops env h)) (fun items env h => drawnK (evalDK r items env [h] h))
    (fun _ _ ia ib env h => seqK ib (ia env h)) (fun c _ _ ia ib env h => condK ia ib env h (valR env.tmps c)) (fun id _ ic env h => blockK id (ic env h)) (fun c ic env h => seqK (r.loop c) (ic env h))
    (fun f params assign body _ _ env h => rangeK r f params assign body env h) (fun id env h => .ok (.exit id, env) h) (fun _ ic env h => ic env h) (fun env h => .ok (.ret, env) h) c

section
variable (r : Rec) (env : Env) (h : Heap)
theorem codeK_region (ops : List AOper) : evalCodeK r (.region ops) env h = regionK (evalOpsK r ops env h) := rfl
theorem codeK_drawn (items : List DItem) : evalCodeK r (.drawn items) env h = drawnK (evalDK r items env [h] h) := rfl
theorem codeK_seq (a b : ACode) : evalCodeK r (.seq a b) env h = seqK (evalCodeK r b) (evalCodeK r a env h) := rfl
theorem codeK_cond (c : AArg) (a b : ACode) : evalCodeK r (.cond c a b) env h = condK (evalCodeK r a) (evalCodeK r b) env h (val env.tmps c) := by
  rw [← valR_eq]; rfl
theorem codeK_block (id : Nat) (c : ACode) : evalCodeK r (.block id c) env h = blockK id (evalCodeK r c env h) := rfl
theorem codeK_loop (c : ACode) : evalCodeK r (.loop c) env h = seqK (r.loop c) (evalCodeK r c env h) := rfl
theorem codeK_range (f : AArg) (params : List Pos) (assign body : ACode) : evalCodeK r (.rangeFunc f params assign body) env h = rangeK r f params assign body env h := rfl
theorem codeK_scope (c : ACode) : evalCodeK r (.scope c) env h = evalCodeK r c env h := rfl
end

theorem evalCodeK_eq (r : Rec) : ∀ (c : ACode) (env : Env) (h : Heap), evalCodeK r c env h = evalCode r c env h
  | .skip, _, _ => rfl
  | .region ops, env, h => by
    simp only [codeK_region, evalCode, evalOpsK_eq]
    cases evalOps r ops env h <;> rfl
  | .drawn items, env, h => by
    simp only [codeK_drawn, evalCode, evalDK_eq]
    cases evalD r items env [h] h <;> rfl
  | .seq a b, env, h => by
    have ih : evalCodeK r b = evalCode r b := by funext e h; exact evalCodeK_eq r b e h
    simp only [codeK_seq, evalCode, evalCodeK_eq r a, ih]
    generalize evalCode r a env h = z
    cases z with
    | no w => rfl
    | ok x h' => obtain ⟨ex, e⟩ := x; cases ex <;> rfl
  | .cond c a b, env, h => by
    simp only [codeK_cond, evalCode, condK, evalCodeK_eq r a, evalCodeK_eq r b]
    generalize val env.tmps c = z
    cases z with
    | bool b => cases b <;> simp only [condK, evalCodeK_eq]
    | _ => rfl
  | .block id c, env, h => by
    simp only [codeK_block, evalCode, evalCodeK_eq r c]
    generalize evalCode r c env h = z
    cases z with
    | no w => rfl
    | ok x h' => obtain ⟨ex, e⟩ := x; cases ex <;> rfl
  | .loop c, env, h => by
    simp only [codeK_loop, evalCode, evalCodeK_eq r c]
    generalize evalCode r c env h = z
    cases z with
    | no w => rfl
    | ok x h' => obtain ⟨ex, e⟩ := x; cases ex <;> rfl
  | .rangeFunc f params assign body, env, h => by
    simp only [codeK_range, evalCode, rangeK, rangeK1]
    cases env.round with
    | some _ => rfl
    | none =>
      simp only [rangeK2_eq]
      rfl
  | .exit id, _, _ => rfl
  | .scope c, env, h => by simp only [codeK_scope, evalCode, evalCodeK_eq r c]
  | .ret, _, _ => rfl

noncomputable def resK : Option (List AV) → Heap → R AV
  | some [v], h2 => .ok v h2
  | some vs, h2 => .ok (.tup vs) h2
  | none, _ => .no 131

noncomputable def leaveK (fn : AFunc) (env : Env) : R Unit → R AV
  | .ok _ h2 => resK (evalResults env.tmps h2 fn.results) h2
  | .no w => .no w

noncomputable def endK (r : Rec) (fn : AFunc) : R (AExit × Env) → R AV
  | .ok (.exit _, _) _ => .no 130
  | .ok (.normal, env) h1 => leaveK fn env (evalDefers r env.defers h1)
  | .ok (.ret, env) h1 => leaveK fn env (evalDefers r env.defers h1)
  | .no w => .no w

noncomputable def enterK (r : Rec) (fn : AFunc) (args : List AV) (h : Heap) : R AV := endK r fn (evalCodeK r fn.body ⟨setArgs args .H .E, [], none⟩ h)

noncomputable def evalCallK (P : PT AFunc) (r : Rec) (f : Pos) (args : List AV) (h : Heap) : R AV :=
  match P.get f with
  | none => .no (1000 + f.idx)
  | some fn => enterK r fn args h

theorem evalCallK_eq (P : PT AFunc) (r : Rec) (f : Pos) (args : List AV) (h : Heap) : evalCallK P r f args h = evalCall P r f args h := by
  unfold evalCallK evalCall
  cases P.get f with
  | none => rfl
  | some fn =>
    simp only [enterK, evalCodeK_eq]
    generalize evalCode r fn.body _ h = z
    cases z with
    | no w => rfl
    | ok x h1 =>
      obtain ⟨ex, env⟩ := x
      cases ex <;> simp only [endK]
      all_goals
        generalize evalDefers r env.defers h1 = z
        cases z with
        | no w => rfl
        | ok u h2 =>
          simp only [leaveK]
          generalize evalResults env.tmps h2 fn.results = y
          cases y with
          | none => rfl
          | some vs => cases vs with
            | nil => rfl
            | cons v l => cases l <;> rfl

noncomputable def yield3 (l : Pos) : R (AExit × Env) → R AV
  | .ok (ex, _) h2 => match h2.t.get l with
    | some (.loop _ _ t2 p2 a2 b2 d2) => match ex with
      | .normal => .ok (.bool true) ⟨h2.t.set l (.loop .ready .normal t2 p2 a2 b2 d2), h2.next⟩
      | ex => .ok (.bool false) ⟨h2.t.set l (.loop .done ex t2 p2 a2 b2 d2), h2.next⟩
    | _ => .no 110
  | .no w => .no w

noncomputable def yield2 (r : Rec) (l : Pos) (body : ACode) : R (AExit × Env) → R AV
  | .ok (.normal, env) h1 => match h1.t.get l with
    | some (.loop .ready q1 t1 p1 a1 b1 d1) => yield3 l (evalCodeK r body env ⟨h1.t.set l (.loop .busy q1 t1 p1 a1 b1 d1), h1.next⟩)
    | _ => .no 111
  | .ok _ _ => .no 112
  | .no w => .no w

noncomputable def yield1 (r : Rec) (l : Pos) (assign body : ACode) (h : Heap) : Option (PT AV) → R AV
  | some tm => yield2 r l body (evalCodeK r assign ⟨tm, [], some l⟩ h)
  | none => .no 113

noncomputable def evalYieldK (r : Rec) (l : Pos) (args : List AV) (h : Heap) : R AV :=
  match h.t.get l with
  | some (.loop .ready _ tmps params assign body _) => yield1 r l assign body h (setParams params args tmps)
  | _ => .no 115

theorem yield3_eq (l : Pos) (z : R (AExit × Env)) : yield3 l z = (match z with
          | .ok (ex, _) h2 => match h2.t.get l with
            | some (.loop _ _ t2 p2 a2 b2 d2) => match ex with
              | .normal => .ok (.bool true) ⟨h2.t.set l (.loop .ready .normal t2 p2 a2 b2 d2), h2.next⟩
              | ex => .ok (.bool false) ⟨h2.t.set l (.loop .done ex t2 p2 a2 b2 d2), h2.next⟩
            | _ => .no 110
          | .no w => .no w) := by
  cases z with
  | no w => rfl
  | ok x h2 => rfl

theorem evalYieldK_eq (r : Rec) (l : Pos) (args : List AV) (h : Heap) : evalYieldK r l args h = evalYield r l args h := by
  unfold evalYieldK evalYield
  generalize h.t.get l = z
  cases z with
  | none => rfl
  | some o => cases o with
    | loop st q tmps params assign body d => cases st with
      | ready =>
        simp only
        generalize setParams params args tmps = y
        cases y with
        | none => rfl
        | some tm =>
          simp only [yield1, evalCodeK_eq]
          generalize evalCode r assign ⟨tm, [], some l⟩ h = z
          cases z with
          | no w => rfl
          | ok x h1 =>
            obtain ⟨ex, env⟩ := x
            cases ex with
            | normal =>
              simp only [yield2, evalCodeK_eq, yield3_eq]
              rfl
            | _ => rfl
      | _ => rfl
    | _ => rfl

/-- The machine once more, put so that little is laid again at each step. -/
noncomputable def fixK (P : PT AFunc) : Nat → Rec
  | 0 => ⟨fun _ _ _ => .no 140, fun _ _ _ => .no 141, fun _ _ _ => .no 142⟩
  | n + 1 => ⟨evalCallK P (fixK P n), evalYieldK (fixK P n), fun c => evalCodeK (fixK P n) (.loop c)⟩

theorem fixK_eq (P : PT AFunc) : ∀ n, fixK P n = fix P n
  | 0 => rfl
  | n + 1 => by
    simp only [fixK, fix, fixK_eq P n]
    congr
    · funext f args h; exact evalCallK_eq P _ f args h
    · funext l args h; exact evalYieldK_eq _ l args h
    · funext c env h; exact evalCodeK_eq _ _ env h

end Go.Am

namespace Go.Am

/-- Old memory is kept. -/
def Kept (w w' : World) : Prop := (∀ (c : Nat) (o : Obj), w.heap[c]? = some o → w'.heap[c]? = some o) ∧ Same w w'

/-- All of memory, as it is. -/
def allOf (w : World) : Nat → Option FObj := fun c => (w.heap[c]?).map .ex
theorem allOf_holds {w : World} {c : Nat} {x : FObj} (h : allOf w c = some x) : x.Holds w c := by
  unfold allOf at h
  cases hx : w.heap[c]? with
  | none => rw [hx] at h; cases h
  | some o => rw [hx] at h; cases h; exact hx

/-- Nothing of memory is looked at. -/
theorem HR.bare (C : Cx) (w : World) (n : Pos) : HR C (fun _ => none) ⟨.E, n⟩ (allOf w) w :=
  ⟨fun b o h => by simp at h, fun b b' o o' l l' h => by simp at h, fun c o h => allOf_holds h, fun c o b ob l _ h => by simp at h, fun b o h => by simp at h⟩
theorem HR.kept {C : Cx} {ρ : Map} {h : Heap} {w w' : World} (hr : HR C ρ h (allOf w) w') {c : Nat} {o : Obj} (hc : w.heap[c]? = some o) : w'.heap[c]? = some o :=
  hr.frame c (.ex o) (by unfold allOf; rw [hc]; rfl)

def okBool (b : Bool) : R AV → Bool
  | .ok (.bool c) _ => eqBool b c
  | _ => false

/-- A call of no arguments whose run ends in a truth value. -/
theorem calls_bool {C : Cx} (ok : C.OK) {T : PT AFunc} (hT : TblOK C T) {n : Nat} {f : Pos} {b : Bool} (h : okBool b ((fixK T n).call f [] ⟨.E, .H⟩) = true) (w : World) :
    Calls C.P f.idx #[] w fun e w' => e = .returned (.bool b) ∧ Kept w w' := by
  rw [fixK_eq] at h
  unfold okBool at h
  split at h
  · rename_i c h' e
    have hb : b = c := by cases b <;> cases c <;> first | rfl | (simp [eqBool] at h)
    subst hb
    have := calls_of ok hT e (HR.bare C w .H) VRs.nil (fun _ _ _ => rfl)
    refine this.mono ?_
    rintro e w' ⟨ρ', u, rfl, _, hu, hr, hs⟩
    simp only [VR] at hu
    exact ⟨by rw [hu], fun c o hc => hr.kept hc, hs⟩
  · cases h

end Go.Am

