/- An abstract machine for Go code and its soundness over the model; no condition of its own. Used by the proof that the law TopScheduled returns true at every input. -/
import Derived.Test.YtofefignkpmlbaaGreatAm6
namespace Go.Am

/-- What a deferred call is. -/
def DR (ρ : Map) : List ADef → List Deferred → Prop
  | [], l => l = []
  | .collected b :: ds, l => ∃ k l', ρ b = some k ∧ l = { target := .collected k.block, args := #[] } :: l' ∧ DR ρ ds l'
  | .call f args :: ds, l => ∃ (args' cap : List Value) (l' : List Deferred), l = { target := .fn (.func f.idx) cap.toArray, args := args'.toArray } :: l' ∧ VRs ρ args (args' ++ cap) ∧ DR ρ ds l'

theorem DR.mono {ρ ρ' : Map} (h : Ext ρ ρ') : ∀ {ds : List ADef} {l : List Deferred}, DR ρ ds l → DR ρ' ds l
  | [], l, e => e
  | .collected b :: ds, l, e => by
    obtain ⟨k, l', h1, h2, h3⟩ := e
    exact ⟨k, l', h _ _ h1, h2, DR.mono h h3⟩
  | .call f args :: ds, l, e => by
    obtain ⟨args', cap, l', h1, h2, h3⟩ := e
    exact ⟨args', cap, l', h1, VRs.mono h _ _ h2, DR.mono h h3⟩

/-- Of which round a frame is. -/
def RoundR (ρ : Map) : Option Pos → Option Nat → Prop
  | none, r => r = none
  | some l, r => ∃ k, ρ l = some k ∧ r = some k.block

theorem RoundR.mono {ρ ρ' : Map} (h : Ext ρ ρ') {o : Option Pos} {r : Option Nat} (e : RoundR ρ o r) : RoundR ρ' o r := by
  cases o with
  | none => exact e
  | some l => obtain ⟨k, h1, h2⟩ := e; exact ⟨k, h _ _ h1, h2⟩

/-- A frame's part of the abstract one. -/
structure EnvR (ρ : Map) (env : Env) (b : Frame) (a : Act) (nt : Nat) : Prop where
  tmps : ER ρ env.tmps a.tmps
  defers : DR ρ env.defers a.defers
  round : RoundR ρ env.round b.roundOf
  size : nt ≤ a.tmps.size

theorem EnvR.mono {ρ ρ' : Map} (h : Ext ρ ρ') {env : Env} {b : Frame} {a : Act} {nt : Nat} (e : EnvR ρ env b a nt) : EnvR ρ' env b a nt := by
  exact ⟨e.tmps.mono h, e.defers.mono h, e.round.mono h, e.size⟩

/-- Nobody panics right behind a call. -/
def Calm (kind : CallKind) (cs : List Frame) : Prop := kind = .normal ∨ (kind = .deferred ∧ ∃ c rest, cs = c :: rest ∧ c.mode = .returning)

theorem tryRecover_none {fr : Frame} {cs : List Frame} (h : Calm fr.kind cs) : tryRecover fr cs = none := by
  rcases h with h | ⟨h, c, rest, rfl, h2⟩
  · unfold tryRecover; rw [h]
  · unfold tryRecover; rw [h]; simp [h2]

/-- A call comes to its end as the abstract one does. -/
def CallSim (C : Cx) (f : Pos) (args : List AV) (h : Heap) (v : AV) (h' : Heap) : Prop :=
  h.next.nat ≤ h'.next.nat ∧ (∀ (w : World) (as : Array Value), (callFunc f.idx as).run C.P w = .ok (.enter f.idx as) w) ∧
  ∀ ρ F w (args' : List Value) kind cs, HR C ρ h F w → VRs ρ args args' → Fr ρ h.next h'.next → Calm kind cs →
    ∃ ρ' u w' fr, Out ρ ρ' h.next h'.next ∧ VR ρ' v u ∧ HR C ρ' h' F w' ∧ Same w w' ∧ Steps C.P (lone (Frame.enter C.P f.idx args'.toArray kind) cs w) (lone fr cs w') ∧
      fr.mode = .returning ∧ fr.defers = [] ∧ fr.kind = kind ∧ fr.fn = f.idx ∧ ∃ fn, C.P.funcs[f.idx]? = some fn ∧ (results fn fr.tmps).run C.P w' = .ok u w'

/-- So does a round of a loop over a function. -/
def YieldSim (C : Cx) (l : Pos) (args : List AV) (h : Heap) (v : AV) (h' : Heap) : Prop :=
  h.next.nat ≤ h'.next.nat ∧
  ∀ ρ F w (args' : List Value) k, HR C ρ h F w → VRs ρ args args' → ρ l = some k → Fr ρ h.next h'.next →
    ∃ fn tm as bd, (Instr.yield k.block args'.toArray).run C.P w = .ok (.round k.block fn tm as bd) w ∧
      ∀ (c : Frame) cs, ∃ ρ' u w', Out ρ ρ' h.next h'.next ∧ VR ρ' v u ∧ HR C ρ' h' F w' ∧ Same w w' ∧ Steps C.P (lone (Frame.round k.block fn tm as bd .normal) (c :: cs) w) (lone (c.finish u) cs w')

/-- Where code comes to. -/
def Reach (P : Program) (m : Machine) (b : Frame) (a : Act) (k : List Item) (cs : List Frame) (w : World) : AExit → Prop
  | .normal => Steps P m (lone (b.atR a k) cs w)
  | .exit id => ∃ k', exitTo id k' = exitTo id k ∧ Steps P m (lone (b.atR a (.code (.exit id) :: k')) cs w)
  | .ret => ∃ k', Steps P m (lone (b.atR a (.code .ret :: k')) cs w)

theorem Reach.of_steps {P : Program} {m m' : Machine} {b : Frame} {a : Act} {k : List Item} {cs : List Frame} {w : World} {ex : AExit} (h : Steps P m m') (h' : Reach P m' b a k cs w ex) : Reach P m b a k cs w ex := by
  cases ex with
  | normal => exact h.trans h'
  | exit id => obtain ⟨k', h1, h2⟩ := h'; exact ⟨k', h1, h.trans h2⟩
  | ret => obtain ⟨k', h2⟩ := h'; exact ⟨k', h.trans h2⟩

/-- What is to be done next comes to where the abstract one does. -/
def ItemSim (C : Cx) (nt : Nat) (it : Item) (env : Env) (h : Heap) (ex : AExit) (env' : Env) (h' : Heap) : Prop :=
  h.next.nat ≤ h'.next.nat ∧ env'.round = env.round ∧
  ∀ ρ F w b a k cs, HR C ρ h F w → EnvR ρ env b a nt → Fr ρ h.next h'.next → Calm b.kind cs →
    ∃ ρ' a' w', Out ρ ρ' h.next h'.next ∧ HR C ρ' h' F w' ∧ EnvR ρ' env' b a' nt ∧ Same w w' ∧ Reach C.P (lone (b.atR a (it :: k)) cs w) b a' k cs w' ex

/-- Code comes to where the abstract one does. -/
abbrev CodeSim (C : Cx) (nt : Nat) (code : Code) (env : Env) (h : Heap) (ex : AExit) (env' : Env) (h' : Heap) : Prop := ItemSim C nt (.code code) env h ex env' h'

/-- Memory does not shrink. -/
structure RecNext (r : Rec) : Prop where
  call : ∀ f args h v h', r.call f args h = .ok v h' → h.next.nat ≤ h'.next.nat
  yield : ∀ l args h v h', r.yield l args h = .ok v h' → h.next.nat ≤ h'.next.nat
  loop : ∀ c env h x h', r.loop c env h = .ok x h' → h.next.nat ≤ h'.next.nat

/-- What is known of the calls that evaluation makes. -/
structure RecOK (C : Cx) (r : Rec) : Prop where
  next : RecNext r
  call : ∀ f args h v h', r.call f args h = .ok v h' → CallSim C f args h v h'
  yield : ∀ l args h v h', r.yield l args h = .ok v h' → YieldSim C l args h v h'
  loop : ∀ nt c code env h ex env' h', trCode C.ty C.ib nt code = some c → r.loop c env h = .ok (ex, env') h' → ItemSim C nt (.inLoop code) env h ex env' h'

section
variable {C : Cx} {ρ : Map} {h h' : Heap} {F : Nat → Option FObj} {w : World} {env env' : Env} {a : Act} {b : Frame} {r : Rec} {o : Oper} {v : AV} {nt : Nat}

theorem ER.put {tm : PT AV} {tmps : Array Value} (e : ER ρ tm tmps) {t : Tmp} {p : Pos} (hp : trTmp nt t = some p) (hs : nt ≤ tmps.size) {u : Value} (hv : VR ρ v u) : ER ρ (PT.set p v tm) (tmps.setIfInBounds t u) := by
  unfold trTmp at hp
  split at hp
  · rename_i ht
    cases hp
    have h4 : t < 16777216 := Nat.lt_of_lt_of_le ht.2 (by decide)
    have hlt : t < tmps.size := Nat.lt_of_lt_of_le ht.1 hs
    intro q
    rw [PT.get_set]
    by_cases hq : Pos.ofIdx t = q
    · subst hq
      rw [if_pos rfl, Pos.idx_ofIdx h4]
      simp [Array.getD, hlt, hv]
    · rw [if_neg hq]
      have hne : q.idx ≠ t := by
        intro e2
        apply hq
        apply Pos.idx_inj
        rw [Pos.idx_ofIdx h4, e2]
      have := e q
      simp only [Array.getD_eq_getD_getElem?, Array.getElem?_setIfInBounds] at this ⊢
      rw [if_neg (fun e => hne e.symm)]
      exact this
  · cases hp

theorem EnvR.put (e : EnvR ρ env b a nt) {d : Option Tmp} {dst : Option Pos} (hd : trDst nt d = some dst) {u : Value} (hv : VR ρ v u) : EnvR ρ (putV dst v env) b (a.put d u) nt := by
  cases d with
  | none => simp only [trDst, Option.some.injEq] at hd; subst hd; exact e
  | some t =>
    simp only [trDst] at hd
    obtain ⟨p, hp, rfl⟩ := Option.map_eq_some_iff.1 hd
    exact ⟨e.tmps.put hp e.size hv, e.defers, e.round, by simp only [Act.put, Array.size_setIfInBounds]; exact e.size⟩

/-- Is an operation carried out? -/
theorem wanted_good {ops : Array Oper} {ao : AOper} (he : EnvR ρ env b a nt) (ht : trOper C.ty C.ib nt ops o = some ao) {x : Bool} (hw : wanted env ao.guard = some x) : Region.wanted o (yielded ops a.tmps) = x := by
  simp only [trOper] at ht
  cases hd : trDst nt o.dst with
  | none => simp [hd] at ht
  | some d =>
    cases hg : o.guard with
    | none =>
      simp [hd, hg] at ht
      subst ht
      simp only [wanted, Option.some.injEq] at hw
      subst hw
      simp [Region.wanted, hg]
    | some jw =>
      obtain ⟨j, want⟩ := jw
      cases ht2 : (ops[j]?).bind (·.dst) with
      | none => simp [hd, hg, ht2] at ht
      | some t =>
        cases hp : trTmp nt t with
        | none => simp [hd, hg, ht2, hp] at ht
        | some p =>
          simp [hd, hg, ht2, hp] at ht
          subst ht
          have hp2 : p = Pos.ofIdx t ∧ t < nt ∧ t < 16777216 := by
            unfold trTmp at hp
            split at hp
            · rename_i h1; cases hp; exact ⟨rfl, h1.1, Nat.lt_of_lt_of_le h1.2 (by decide)⟩
            · cases hp
          obtain ⟨rfl, hlt, h4⟩ := hp2
          have hv := he.tmps (Pos.ofIdx t)
          rw [Pos.idx_ofIdx h4] at hv
          have hsz : t < a.tmps.size := Nat.lt_of_lt_of_le hlt he.size
          simp only [wanted] at hw
          have hy : yielded ops a.tmps j = match a.tmps.getD t undef with | .bool b => some b | _ => none := by
            simp only [yielded, ht2, Option.bind_some]
            simp [Array.getD, hsz]
            cases a.tmps[t] <;> rfl
          split at hw
          · rename_i c e
            rw [e] at hv
            simp only [Option.getD_some, VR] at hv
            simp only [Option.some.injEq] at hw
            subst hw
            simp only [Region.wanted, hg, hy, hv]
            cases c <;> cases want <;> rfl
          · rename_i vs e
            rw [e] at hv
            simp only [Option.getD_some, VR] at hv
            obtain ⟨l, h1, _⟩ := hv
            simp only [Option.some.injEq] at hw
            subst hw
            simp only [Region.wanted, hg, hy, h1]
            rfl
          · cases hw

section steps
variable {P : Program} {ops : Array Oper} {i : Nat} {rest : List Nat} {k : List Item} {cs : List Frame}

theorem step_value {u : Value} {w' : World} (ho : ops[i]? = some o) (hw : Region.wanted o (yielded ops a.tmps) = true) (hr : (o.semAt b.roundOf a.eval).run P w = .ok (.value u) w') :
    step P (lone (b.atR a (.inRegion ops (i :: rest) :: k)) cs w) = .next (lone (b.atR (a.put o.dst u) (.inRegion ops rest :: k)) cs w') := by
  have hf := Frame.finish_atR b a ops i rest k u
  rw [ho] at hf
  simp only [Option.bind_some] at hf
  rw [← hf]
  exact step_lone_go (by rw [stepGR_op ho hw]; simp [stepG.apply, Sem.runT_eq, hr])

theorem step_skipped {w' : World} (ho : ops[i]? = some o) (hw : Region.wanted o (yielded ops a.tmps) = true) (hr : (o.semAt b.roundOf a.eval).run P w = .ok .skip w') :
    step P (lone (b.atR a (.inRegion ops (i :: rest) :: k)) cs w) = .next (lone (b.atR (a.put o.dst undef) (.inRegion ops rest :: k)) cs w') := by
  have hf := Frame.finish_atR b a ops i rest k undef
  rw [ho] at hf
  simp only [Option.bind_some] at hf
  rw [← hf]
  exact step_lone_go (by rw [stepGR_op ho hw]; simp [stepG.apply, Sem.runT_eq, hr])

theorem step_enter {f : FuncId} {args : Array Value} {w' : World} (ho : ops[i]? = some o) (hw : Region.wanted o (yielded ops a.tmps) = true) (hr : (o.semAt b.roundOf a.eval).run P w = .ok (.enter f args) w') :
    step P (lone (b.atR a (.inRegion ops (i :: rest) :: k)) cs w) = .next (lone (Frame.enter P f args .normal) (b.atR a (.inRegion ops (i :: rest) :: k) :: cs) w') :=
  step_lone_go (by rw [stepGR_op ho hw]; simp [stepG.apply, Sem.runT_eq, hr, Frame.atR])

theorem step_round {l : Nat} {f : FuncId} {tm : Array Value} {as bd : Code} {w' : World} (ho : ops[i]? = some o) (hw : Region.wanted o (yielded ops a.tmps) = true) (hr : (o.semAt b.roundOf a.eval).run P w = .ok (.round l f tm as bd) w') :
    step P (lone (b.atR a (.inRegion ops (i :: rest) :: k)) cs w) = .next (lone (Frame.round l f tm as bd .normal) (b.atR a (.inRegion ops (i :: rest) :: k) :: cs) w') :=
  step_lone_go (by rw [stepGR_op ho hw]; simp [stepG.apply, Sem.runT_eq, hr, Frame.atR])

theorem step_recover {w' : World} (ho : ops[i]? = some o) (hw : Region.wanted o (yielded ops a.tmps) = true) (hb : b.roundOf = none) (hcalm : Calm b.kind cs) (hr : (o.semAt b.roundOf a.eval).run P w = .ok .recover w') :
    step P (lone (b.atR a (.inRegion ops (i :: rest) :: k)) cs w) = .next (lone (b.atR (a.put o.dst .nilIface) (.inRegion ops rest :: k)) cs w') := by
  have hf := Frame.finish_atR b a ops i rest k .nilIface
  rw [ho] at hf
  simp only [Option.bind_some] at hf
  have hrec : tryRecover (b.atR a (.inRegion ops (i :: rest) :: k)) cs = none := tryRecover_none hcalm
  rw [← hf]
  refine step_lone_go ?_
  rw [stepGR_op ho hw]
  simp only [stepG.apply, Sem.runT_eq, hr, GStep.bare_after]
  have : (b.atR a (.inRegion ops (i :: rest) :: k)).roundOf = none := hb
  rw [this]
  simp only [hrec]
  rfl

theorem step_defer {d : Deferred} {w' : World} (ho : ops[i]? = some o) (hw : Region.wanted o (yielded ops a.tmps) = true) (hr : (o.semAt b.roundOf a.eval).run P w = .ok (.defer d) w') :
    step P (lone (b.atR a (.inRegion ops (i :: rest) :: k)) cs w) = .next (lone (b.atR ((⟨a.tmps, d :: a.defers⟩ : Act).put o.dst undef) (.inRegion ops rest :: k)) cs w') := by
  have hf := Frame.finish_atR b ⟨a.tmps, d :: a.defers⟩ ops i rest k undef
  rw [ho] at hf
  simp only [Option.bind_some] at hf
  rw [← hf]
  refine step_lone_go ?_
  rw [stepGR_op ho hw]
  simp only [stepG.apply, Sem.runT_eq, hr, GStep.bare_after]
  rfl

/-- A call that came to its end leads back. -/
theorem step_back {fr c : Frame} {u : Value} {fn : Func} (hm : fr.mode = .returning) (hd : fr.defers = []) (hk : fr.kind = .normal) (hf : P.funcs[fr.fn]? = some fn) (hr : (results fn fr.tmps).run P w = .ok u w) :
    step P (lone fr (c :: cs) w) = .next (lone (c.finish u) cs w) :=
  step_leave_returned ⟨hm, hd, hk, fn, hf, hr⟩
end steps

end
end Go.Am

namespace Go.Am
section
variable {C : Cx} {ρ : Map} {h h' : Heap} {F : Nat → Option FObj} {w : World} {env env' : Env} {a : Act} {b : Frame} {r : Rec} {o : Oper} {v : AV} {nt : Nat}

theorem trOp'_inv {op : AOp} (h : trOp' C.ty C.ib o = op) (hb : op ≠ .bad) : trOp C.ty C.ib o = some op ∧ (op.calls = true → isCall o.op = true) := by
  unfold trOp' at h
  split at h
  · rename_i a0 e
    split at h
    · exact absurd h.symm hb
    · rename_i hne
      subst h
      refine ⟨e, fun hc => ?_⟩
      cases hi : isCall o.op with
      | true => rfl
      | false => exact absurd hi (hne hc)
  · exact absurd h.symm hb

theorem trArgs_map {args : Array Operand} {l : List AArg} (h : trArgs args.toList = some l) (e : ER ρ env.tmps a.tmps) : VRs ρ (vals env.tmps l) (args.map a.eval).toList := by
  rw [Array.toList_map]
  exact vals_good e h

/-- A call that is made by name, or by a value. -/
theorem run_call_value {P : Program} {c : Call} {f : Operand} (hc : c.callee = .value f) {t : TypeId} {fn : Fn} {x y : Array Value} (hf : a.eval f = .func fn x y) (w : World) :
    ((do let d ← resolve a.eval c t; invoke d.target d.args : Sem Next)).run P w = (invoke (.fn fn y) (x ++ c.args.map a.eval)).run P w := by
  simp only [resolve, hc, hf, Deferred.ofValue, Sem.run_bind, Sem.run_pure, Result.andThen_ok]

/-- An operation comes to what the abstract one does. -/
theorem op_sim (ok : C.OK) (hrec : RecOK C r) {op : AOp} (ht : trOp' C.ty C.ib o = op) (hev : evalOp r env h op = .ok v h') (hr : HR C ρ h F w) (he : EnvR ρ env b a nt) (hf : Fr ρ h.next h'.next) {cs : List Frame} (hcalm : Calm b.kind cs)
    {ops : Array Oper} {i : Nat} {rest : List Nat} {k : List Item} (ho : ops[i]? = some o) (hw : Region.wanted o (yielded ops a.tmps) = true) :
    h.next.nat ≤ h'.next.nat ∧ ∃ ρ' u w', Out ρ ρ' h.next h'.next ∧ VR ρ' v u ∧ HR C ρ' h' F w' ∧ Same w w' ∧
      Steps C.P (lone (b.atR a (.inRegion ops (i :: rest) :: k)) cs w) (lone (b.atR (a.put o.dst u) (.inRegion ops rest :: k)) cs w') := by
  have hb : op ≠ .bad := by rintro rfl; simp [evalOp] at hev
  obtain ⟨ht1, ht2⟩ := trOp'_inv ht hb
  cases hc : op.calls with
  | false =>
    have hsem : ∀ {P : Program} {w : World}, (o.semAt b.roundOf a.eval).run P w = (execOp a.eval o).run P w := by
      intro P w
      rw [Oper.semAt_eq]
      intro c e
      simp [trOp, e] at ht1
      split at ht1
      · simp [Option.bind_eq_some_iff] at ht1
        obtain ⟨_, _, _, _, e2⟩ := ht1
        rw [← e2] at hc
        simp [AOp.calls] at hc
      · cases ht1
    obtain ⟨ρ', u, w', g1, g2, g3, g4, g5, g6⟩ := good_op ok hr he.tmps hf hev ht1 hc
    refine ⟨g2, ρ', u, w', g1, g3, g4, g5, ?_⟩
    rcases g6 with g6 | ⟨g6, rfl⟩
    · exact .one (step_value ho hw (by rw [hsem]; exact g6))
    · exact .one (step_skipped ho hw (by rw [hsem]; exact g6))
  | true =>
    have hcall := ht2 hc
    cases hop : o.op with
    | call c =>
      have hsem : ∀ {P : Program} {w : World}, (o.semAt b.roundOf a.eval).run P w = (execOp a.eval o).run P w := by
        intro P w
        rw [Oper.semAt_eq]
        intro c' e
        rw [hop] at e
        cases e
      have hexec : ∀ {P : Program} {w : World}, (execOp a.eval o).run P w = ((do let d ← resolve a.eval c o.type; invoke d.target d.args : Sem Next)).run P w := by
        intro P w
        simp only [execOp, hop]
      -- a function is entered
      have henter : ∀ (f : Pos) (as : List AV) (as' : List Value), r.call f as h = .ok v h' → VRs ρ as as' → (∀ w, (execOp a.eval o).run C.P w = (callFunc f.idx as'.toArray).run C.P w) →
          h.next.nat ≤ h'.next.nat ∧ ∃ ρ' u w', Out ρ ρ' h.next h'.next ∧ VR ρ' v u ∧ HR C ρ' h' F w' ∧ Same w w' ∧
            Steps C.P (lone (b.atR a (.inRegion ops (i :: rest) :: k)) cs w) (lone (b.atR (a.put o.dst u) (.inRegion ops rest :: k)) cs w') := by
        intro f as as' hcl hvs hgo
        obtain ⟨g0, g1, g2⟩ := hrec.call f as h v h' hcl
        obtain ⟨ρ', u, w', fr, k1, k2, k3, k4, k5, k6, k7, k8, k9, fn, k10, k11⟩ := g2 ρ F w as' .normal (b.atR a (.inRegion ops (i :: rest) :: k) :: cs) hr hvs hf (.inl rfl)
        refine ⟨g0, ρ', u, w', k1, k2, k3, k4, ?_⟩
        have s1 : step C.P (lone (b.atR a (.inRegion ops (i :: rest) :: k)) cs w) = .next (lone (Frame.enter C.P f.idx as'.toArray .normal) (b.atR a (.inRegion ops (i :: rest) :: k) :: cs) w) :=
          step_enter ho hw (by rw [hsem, hgo, g1])
        have s2 := step_back (c := b.atR a (.inRegion ops (i :: rest) :: k)) (cs := cs) k6 k7 k8 (by rw [k9]; exact k10) k11
        have hfin := Frame.finish_atR b a ops i rest k u
        rw [ho] at hfin
        simp only [Option.bind_some] at hfin
        rw [hfin] at s2
        exact .head s1 (k5.trans (.one s2))
      have ht' : trCall C.ty C.ib c = some op := by simpa [trOp, hop] using ht1
      unfold trCall at ht'
      split at ht'
      · rename_i f hcal
        simp [Option.bind_eq_some_iff] at ht'
        obtain ⟨l, hl, ht'⟩ := ht'
        split at ht'
        · split at ht'
          · cases ht'; simp [AOp.calls] at hc
          · cases ht'
        · simp at ht'
          obtain ⟨hlt, rfl⟩ := ht'
          have h4 : f < 16777216 := Nat.lt_of_lt_of_le hlt (by decide)
          simp only [evalOp] at hev
          refine henter _ _ _ hev (trArgs_map hl he.tmps) ?_
          intro w
          rw [hexec, run_call_value hcal (fn := .func f) (x := #[]) (y := #[]) rfl]
          rw [Pos.idx_ofIdx h4, Array.toArray_toList]
          simp only [invoke, Array.empty_append, Array.append_empty]
      · rename_i x hne hcal
        simp [Option.bind_eq_some_iff] at ht'
        obtain ⟨y, hy, l, hl, rfl⟩ := ht'
        have hv := val_good hy he.tmps
        simp only [evalOp] at hev
        split at hev
        · rename_i f first captured e
          rw [e] at hv
          simp only [VR] at hv
          obtain ⟨a', c', g1, g2, g3⟩ := hv
          refine henter _ _ (a' ++ (c.args.map a.eval).toList ++ c') hev ((g2.append (trArgs_map hl he.tmps)).append g3) ?_
          intro w
          rw [hexec, run_call_value hcal g1]
          simp only [invoke]
          congr 2
          apply Array.ext'
          simp
        · rename_i lp e
          rw [e] at hv
          simp only [VR] at hv
          obtain ⟨kk, g1, g2⟩ := hv
          obtain ⟨y0, y1⟩ := hrec.yield lp _ h v h' hev
          obtain ⟨fn, tm, as, bd, y2, y3⟩ := y1 ρ F w _ kk hr (trArgs_map hl he.tmps) g1 hf
          obtain ⟨ρ', u, w', k1, k2, k3, k4, k5⟩ := y3 (b.atR a (.inRegion ops (i :: rest) :: k)) cs
          refine ⟨y0, ρ', u, w', k1, k2, k3, k4, ?_⟩
          have s1 : step C.P (lone (b.atR a (.inRegion ops (i :: rest) :: k)) cs w) = .next (lone (Frame.round kk.block fn tm as bd .normal) (b.atR a (.inRegion ops (i :: rest) :: k) :: cs) w) := by
            refine step_round ho hw ?_
            rw [hsem, hexec, run_call_value hcal g2]
            rw [Array.toArray_toList] at y2
            simp only [invoke, Array.empty_append]
            exact y2
          have hfin := Frame.finish_atR b a ops i rest k u
          rw [ho] at hfin
          simp only [Option.bind_some] at hfin
          rw [hfin] at k5
          exact .head s1 k5
        · cases hev
      · rename_i x hcal hargs
        exfalso
        simp [Option.bind_eq_some_iff] at ht'
        obtain ⟨_, _, _, _, d, _, ht'⟩ := ht'
        cases d <;> simp [Option.bind_eq_some_iff] at ht'
        case pointer p =>
          obtain ⟨d2, _, ht'⟩ := ht'
          cases d2 <;> simp at ht'
          subst ht'; simp [AOp.calls] at hc
        all_goals (subst ht'; simp [AOp.calls] at hc)
      · exfalso
        simp [Option.bind_eq_some_iff] at ht'
        obtain ⟨_, _, _, _, _, _, _, _, d, _, d2, _, ht'⟩ := ht'
        cases d <;> (try simp at ht')
        cases d2 <;> simp [Option.bind_eq_some_iff] at ht'
        obtain ⟨_, _, _, _, _, rfl⟩ := ht'
        simp [AOp.calls] at hc
      · exfalso
        simp [Option.bind_eq_some_iff] at ht'
        obtain ⟨_, _, _, _, _, _, d, _, ht'⟩ := ht'
        cases d <;> simp [Option.bind_eq_some_iff] at ht'
        obtain ⟨_, _, rfl⟩ := ht'
        simp [AOp.calls] at hc
      · rename_i hcal hargs
        cases ht'
        simp only [evalOp] at hev
        split at hev
        · rename_i hrd
          cases hev
          have hbr : b.roundOf = none := by have := he.round; rw [hrd] at this; exact this
          refine ⟨Nat.le_refl _, ρ, .nilIface, w, Out.refl _ _ _, by simp only [VR], hr, Same.refl w, .one (step_recover ho hw hbr hcalm ?_)⟩
          rw [hsem, run_builtin hop hcal]
          rfl
        · cases hev
      · exfalso
        simp [Option.bind_eq_some_iff] at ht'
        obtain ⟨_, _, _, _, rfl⟩ := ht'
        simp [AOp.calls] at hc
      · exfalso
        simp [Option.bind_eq_some_iff] at ht'
        obtain ⟨_, _, _, _, rfl⟩ := ht'
        simp [AOp.calls] at hc
      · exfalso
        simp [Option.bind_eq_some_iff] at ht'
        obtain ⟨_, _, _, _, _, _, d, _, ht'⟩ := ht'
        cases d <;> simp [Option.bind_eq_some_iff] at ht'
        obtain ⟨_, _, rfl⟩ := ht'
        simp [AOp.calls] at hc
      · cases ht'
    | defer c =>
      exfalso
      simp [trOp, hop] at ht1
      split at ht1
      · simp [Option.bind_eq_some_iff] at ht1
        obtain ⟨_, _, _, _, rfl⟩ := ht1
        simp [evalOp] at hev
      · cases ht1
    | _ => rw [hop] at hcall; simp [isCall] at hcall

end
end Go.Am

namespace Go.Am
section
variable {C : Cx} {ρ : Map} {h h' : Heap} {F : Nat → Option FObj} {w : World} {env env' : Env} {a : Act} {b : Frame} {r : Rec} {o : Oper} {v : AV} {nt : Nat}

theorem bin_next {b : ABin} {x y : AV} {h h' : Heap} {v : AV} (hev : bin b x y h = .ok v h') : h' = h := by
  unfold bin at hev
  split at hev
  · unfold boolV at hev; split at hev <;> cases hev; rfl
  · unfold boolV at hev; split at hev <;> cases hev; rfl
  · split at hev
    · split at hev <;> cases hev; rfl
    · split at hev
      · split at hev <;> cases hev; rfl
      · cases hev
    · cases hev

theorem append_next {size n : Nat} {x : AV} {new : List AV} {h h' : Heap} {v : AV} (hev : appendA size x n new h = .ok v h') : h.next.nat ≤ h'.next.nat := by
  unfold appendA at hev
  repeat' split at hev
  all_goals first
    | (cases hev; done)
    | (cases hev; exact Nat.le_refl _)
    | (cases hev; simp [Pos.nat_succ])

theorem evalOp_next' (hrec : RecNext r) {op : AOp} (hev : evalOp r env h op = .ok v h') : h.next.nat ≤ h'.next.nat := by
  cases op <;> simp only [evalOp] at hev
  case call => exact hrec.call _ _ _ _ _ hev
  case callv =>
    split at hev
    · exact hrec.call _ _ _ _ _ hev
    · exact hrec.yield _ _ _ _ _ hev
    · cases hev
  case bin => rw [bin_next hev]; exact Nat.le_refl _
  case eqA =>
    split at hev
    · unfold boolV at hev; split at hev <;> cases hev; exact Nat.le_refl _
    · cases hev
  case append =>
    split at hev
    · split at hev
      · exact append_next hev
      · cases hev
    · cases hev
  all_goals
    repeat' split at hev
    all_goals first
      | (cases hev; done)
      | (cases hev; exact Nat.le_refl _)
      | (cases hev; simp [Pos.nat_succ])

theorem evalOp_next (hrec : RecOK C r) {op : AOp} (hev : evalOp r env h op = .ok v h') : h.next.nat ≤ h'.next.nat := evalOp_next' hrec.next hev

theorem evalOps_next (hrec : RecNext r) : ∀ (l : List AOper) (env : Env) (h : Heap) (env' : Env) (h' : Heap), evalOps r l env h = .ok env' h' → h.next.nat ≤ h'.next.nat
  | [], env, h, env', h', hev => by simp only [evalOps, R.ok.injEq] at hev; rw [hev.2]; exact Nat.le_refl _
  | o :: l, env, h, env', h', hev => by
    simp only [evalOps] at hev
    split at hev
    · split at hev
      · split at hev
        · exact evalOps_next hrec l _ _ _ _ hev
        · cases hev
      · split at hev
        · rename_i hop
          exact Nat.le_trans (evalOp_next' hrec hop) (evalOps_next hrec l _ _ _ _ hev)
        · cases hev
    · exact evalOps_next hrec l _ _ _ _ hev
    · cases hev

theorem stepD_next (hrec : RecNext r) {x : DItem} {env : Env} {hs : List Heap} {h : Heap} {y : Env × List Heap} {h' : Heap} (hev : stepD r x env hs h = .ok y h') : h.next.nat ≤ h'.next.nat := by
  unfold stepD at hev
  split at hev
  · cases hev
  · split at hev <;> (cases hev; exact Nat.le_refl _)
  · split at hev
    · split at hev
      · rename_i hop; cases hev; exact evalOp_next' hrec hop
      · cases hev
    · split at hev
      · split at hev
        · split at hev
          · cases hev; exact Nat.le_refl _
          · cases hev
        · cases hev
      · cases hev
    · split at hev
      · rename_i hop; cases hev; exact evalOp_next' hrec hop
      · cases hev

theorem evalD_next (hrec : RecNext r) : ∀ (l : List DItem) (env : Env) (hs : List Heap) (h : Heap) (x : Env × List Heap) (h' : Heap), evalD r l env hs h = .ok x h' → h.next.nat ≤ h'.next.nat
  | [], env, hs, h, x, h', hev => by simp only [evalD, R.ok.injEq] at hev; rw [hev.2]; exact Nat.le_refl _
  | y :: l, env, hs, h, x, h', hev => by
    simp only [evalD] at hev
    split at hev
    · rename_i e; exact Nat.le_trans (stepD_next hrec e) (evalD_next hrec l _ _ _ _ _ hev)
    · cases hev

theorem evalCode_next (hrec : RecNext r) : ∀ (c : ACode) (env : Env) (h : Heap) (x : AExit × Env) (h' : Heap), evalCode r c env h = .ok x h' → h.next.nat ≤ h'.next.nat
  | .skip, env, h, x, h', hev => by simp only [evalCode, R.ok.injEq] at hev; rw [hev.2]; exact Nat.le_refl _
  | .region ops, env, h, x, h', hev => by
    simp only [evalCode] at hev
    split at hev
    · rename_i e; cases hev; exact evalOps_next hrec _ _ _ _ _ e
    · cases hev
  | .drawn items, env, h, x, h', hev => by
    simp only [evalCode] at hev
    split at hev
    · rename_i e; cases hev; exact evalD_next hrec _ _ _ _ _ _ e
    · cases hev
  | .seq a b, env, h, x, h', hev => by
    simp only [evalCode] at hev
    split at hev
    · rename_i e; exact Nat.le_trans (evalCode_next hrec a _ _ _ _ e) (evalCode_next hrec b _ _ _ _ hev)
    · exact evalCode_next hrec a _ _ _ _ hev
  | .cond c a b, env, h, x, h', hev => by
    simp only [evalCode] at hev
    split at hev
    · exact evalCode_next hrec a _ _ _ _ hev
    · exact evalCode_next hrec b _ _ _ _ hev
    · cases hev
  | .block id c, env, h, x, h', hev => by
    simp only [evalCode] at hev
    split at hev
    · rename_i e
      split at hev <;> (cases hev; exact evalCode_next hrec c _ _ _ _ e)
    · exact evalCode_next hrec c _ _ _ _ hev
  | .loop c, env, h, x, h', hev => by
    simp only [evalCode] at hev
    split at hev
    · rename_i e; exact Nat.le_trans (evalCode_next hrec c _ _ _ _ e) (hrec.loop _ _ _ _ _ hev)
    · exact evalCode_next hrec c _ _ _ _ hev
  | .rangeFunc f ps a b, env, h, x, h', hev => by
    simp only [evalCode] at hev
    split at hev
    · cases hev
    · split at hev
      · rename_i e
        split at e
        · have n := hrec.call _ _ _ _ _ e
          have n : h.next.succ.succ.nat ≤ _ := n
          rw [Pos.nat_succ, Pos.nat_succ] at n
          split at hev
          · split at hev
            · cases hev
            · cases hev; simp only; omega
          · cases hev
        · cases e
      · cases hev
  | .exit id, env, h, x, h', hev => by simp only [evalCode, R.ok.injEq] at hev; rw [hev.2]; exact Nat.le_refl _
  | .scope c, env, h, x, h', hev => by simp only [evalCode] at hev; exact evalCode_next hrec c _ _ _ _ hev
  | .ret, env, h, x, h', hev => by simp only [evalCode, R.ok.injEq] at hev; rw [hev.2]; exact Nat.le_refl _

theorem evalYield_next (hrec : RecNext r) {l : Pos} {args : List AV} (hev : evalYield r l args h = .ok v h') : h.next.nat ≤ h'.next.nat := by
  unfold evalYield at hev
  split at hev
  · split at hev
    · split at hev
      · rename_i e1
        have n1 := evalCode_next hrec _ _ _ _ _ e1
        split at hev
        · split at hev
          · rename_i e2
            have n2 := evalCode_next hrec _ _ _ _ _ e2
            have n2 : _ ≤ _ := n2
            split at hev
            · split at hev <;> (cases hev; exact Nat.le_trans n1 n2)
            · cases hev
          · cases hev
        · cases hev
      · cases hev
      · cases hev
    · cases hev
  · cases hev

theorem evalDefers_next (hrec : RecNext r) : ∀ (ds : List ADef) (h : Heap) (x : Unit) (h' : Heap), evalDefers r ds h = .ok x h' → h.next.nat ≤ h'.next.nat
  | [], h, x, h', hev => by simp only [evalDefers, R.ok.injEq] at hev; rw [hev.2]; exact Nat.le_refl _
  | .collected b :: ds, h, x, h', hev => by
    simp only [evalDefers] at hev
    split at hev
    · have n := evalDefers_next hrec ds ⟨PT.rem b h.t, h.next⟩ _ _ hev; exact n
    · cases hev
  | .call f args :: ds, h, x, h', hev => by
    simp only [evalDefers] at hev
    split at hev
    · rename_i e; exact Nat.le_trans (hrec.call _ _ _ _ _ e) (evalDefers_next hrec ds _ _ _ hev)
    · cases hev

theorem evalCall_next {T : PT AFunc} (hrec : RecNext r) {f : Pos} {args : List AV} (hev : evalCall T r f args h = .ok v h') : h.next.nat ≤ h'.next.nat := by
  unfold evalCall at hev
  split at hev
  · cases hev
  · split at hev
    · rename_i e1
      have n1 := evalCode_next hrec _ _ _ _ _ e1
      split at hev
      · cases hev
      · split at hev
        · rename_i e2
          have n2 := evalDefers_next hrec _ _ _ _ e2
          split at hev
          · cases hev; exact Nat.le_trans n1 n2
          · cases hev; exact Nat.le_trans n1 n2
          · cases hev
        · cases hev
    · cases hev

theorem fix_next (T : PT AFunc) : ∀ n, RecNext (fix T n)
  | 0 => ⟨fun _ _ _ _ _ e => (by cases e), fun _ _ _ _ _ e => (by cases e), fun _ _ _ _ _ e => (by cases e)⟩
  | n + 1 => ⟨fun _ _ _ _ _ e => evalCall_next (fix_next T n) e, fun _ _ _ _ _ e => evalYield_next (fix_next T n) e, fun _ _ _ _ _ e => evalCode_next (fix_next T n) _ _ _ _ _ e⟩

/-- Where each operation stands. -/
def At (C : Cx) (nt : Nat) (ops : Array Oper) : List Nat → List AOper → Prop
  | [], as => as = []
  | i :: is, as => ∃ o ao as', ops[i]? = some o ∧ trOper C.ty C.ib nt ops o = some ao ∧ as = ao :: as' ∧ At C nt ops is as'

theorem trOper_inv {ops : Array Oper} {ao : AOper} (h : trOper C.ty C.ib nt ops o = some ao) : trOp' C.ty C.ib o = ao.op ∧ trDst nt o.dst = some ao.dst := by
  simp only [trOper] at h
  cases hd : trDst nt o.dst with
  | none => simp [hd] at h
  | some d =>
    cases hg : o.guard with
    | none => simp [hd, hg] at h; subst h; exact ⟨rfl, rfl⟩
    | some jw =>
      obtain ⟨j, want⟩ := jw
      cases ht2 : (ops[j]?).bind (·.dst) with
      | none => simp [hd, hg, ht2] at h
      | some t =>
        cases hp : trTmp nt t with
        | none => simp [hd, hg, ht2, hp] at h
        | some p => simp [hd, hg, ht2, hp] at h; subst h; exact ⟨rfl, rfl⟩

/-- A deferred call is laid down. -/
theorem defer_sim {x : AArg} {args : List AArg} {f : Pos} {first captured : List AV} (ht : trOp' C.ty C.ib o = .defer x args) (hv : val env.tmps x = .fn f first captured) (he : EnvR ρ env b a nt) (hrd : env.round = none)
    {ops : Array Oper} {i : Nat} {rest : List Nat} {k : List Item} {cs : List Frame} (ho : ops[i]? = some o) (hw : Region.wanted o (yielded ops a.tmps) = true) :
    ∃ d, EnvR ρ ⟨env.tmps, .call f (first ++ vals env.tmps args ++ captured) :: env.defers, none⟩ b ⟨a.tmps, d :: a.defers⟩ nt ∧
      Steps C.P (lone (b.atR a (.inRegion ops (i :: rest) :: k)) cs w) (lone (b.atR ((⟨a.tmps, d :: a.defers⟩ : Act).put o.dst undef) (.inRegion ops rest :: k)) cs w) := by
  obtain ⟨ht1, ht2⟩ := trOp'_inv ht (by simp)
  have hcall := ht2 rfl
  cases hop : o.op with
  | call c =>
    exfalso
    have ht' : trCall C.ty C.ib c = some (.defer x args) := by simpa [trOp, hop] using ht1
    unfold trCall at ht'
    split at ht'
    · simp [Option.bind_eq_some_iff] at ht'
      obtain ⟨l, hl, ht'⟩ := ht'
      split at ht'
      · split at ht' <;> cases ht'
      · simp at ht'
    · simp [Option.bind_eq_some_iff] at ht'
    · simp [Option.bind_eq_some_iff] at ht'
      obtain ⟨_, _, _, _, d, _, ht'⟩ := ht'
      cases d <;> simp [Option.bind_eq_some_iff] at ht'
      obtain ⟨d2, _, ht'⟩ := ht'
      cases d2 <;> simp at ht'
    · simp [Option.bind_eq_some_iff] at ht'
      obtain ⟨_, _, _, _, _, _, _, _, d, _, d2, _, ht'⟩ := ht'
      cases d <;> (try simp at ht')
      cases d2 <;> simp [Option.bind_eq_some_iff] at ht'
    · simp [Option.bind_eq_some_iff] at ht'
      obtain ⟨_, _, _, _, _, _, d, _, ht'⟩ := ht'
      cases d <;> simp [Option.bind_eq_some_iff] at ht'
    · cases ht'
    · simp [Option.bind_eq_some_iff] at ht'
    · simp [Option.bind_eq_some_iff] at ht'
    · simp [Option.bind_eq_some_iff] at ht'
      obtain ⟨_, _, _, _, _, _, d, _, ht'⟩ := ht'
      cases d <;> simp [Option.bind_eq_some_iff] at ht'
    · cases ht'
  | defer c =>
    simp [trOp, hop] at ht1
    split at ht1
    · rename_i xo hcal
      simp [Option.bind_eq_some_iff] at ht1
      obtain ⟨hy, hl⟩ := ht1
      have h1 := val_good hy he.tmps
      rw [hv] at h1
      simp only [VR] at h1
      obtain ⟨a', c', g1, g2, g3⟩ := h1
      have hbr : b.roundOf = none := by have := he.round; rw [hrd] at this; exact this
      refine ⟨{ target := .fn (.func f.idx) c'.toArray, args := a'.toArray ++ c.args.map a.eval }, ⟨he.tmps, ?_, by show RoundR ρ none b.roundOf; exact hbr, he.size⟩, .one (step_defer ho hw ?_)⟩
      · refine ⟨a' ++ (c.args.map a.eval).toList, c', a.defers, ?_, (g2.append (trArgs_map hl he.tmps)).append g3, he.defers⟩
        have : a'.toArray ++ Array.map a.eval c.args = (a' ++ (Array.map a.eval c.args).toList).toArray := by
          apply Array.ext'
          simp
        rw [this]
      · rw [hbr, Oper.semAt_none]
        simp only [execOp, hop, resolve, hcal, g1, Deferred.ofValue, Sem.run_bind, Sem.run_pure, Result.andThen_ok]
    · cases ht1
  | _ => rw [hop] at hcall; simp [isCall] at hcall

/-- The operations of a region, in their order. -/
theorem ops_sim (ok : C.OK) (hrec : RecOK C r) {ops : Array Oper} : ∀ (is : List Nat) (as : List AOper) (env : Env) (h : Heap) (env' : Env) (h' : Heap), At C nt ops is as → evalOps r as env h = .ok env' h' →
    h.next.nat ≤ h'.next.nat ∧ env'.round = env.round ∧ ∀ ρ F w b a k cs, HR C ρ h F w → EnvR ρ env b a nt → Fr ρ h.next h'.next → Calm b.kind cs →
      ∃ ρ' a' w', Out ρ ρ' h.next h'.next ∧ HR C ρ' h' F w' ∧ EnvR ρ' env' b a' nt ∧ Same w w' ∧
        Steps C.P (lone (b.atR a (.inRegion ops is :: k)) cs w) (lone (b.atR a' (.inRegion ops [] :: k)) cs w')
  | [], as, env, h, env', h', hat, hev => by
    simp only [At] at hat
    subst hat
    simp only [evalOps, R.ok.injEq] at hev
    obtain ⟨rfl, rfl⟩ := hev
    exact ⟨Nat.le_refl _, rfl, fun ρ F w b a k cs hr he _ _ => ⟨ρ, a, w, Out.refl _ _ _, hr, he, Same.refl w, Steps.refl _ _⟩⟩
  | i :: is, as, env, h, env', h', hat, hev => by
    obtain ⟨o, ao, as', ho, htr, rfl, hat'⟩ := hat
    obtain ⟨hop, hdst⟩ := trOper_inv htr
    simp only [evalOps] at hev
    split at hev
    · rename_i hw
      split at hev
      · rename_i x args hdef
        split at hev
        · rename_i f first captured hrd hval
          obtain ⟨n1, n2, sim⟩ := ops_sim ok hrec is as' _ _ _ _ hat' hev
          refine ⟨n1, by rw [n2]; unfold putV; split <;> exact hrd.symm, ?_⟩
          intro ρ F w b a k cs hr he hf hcalm
          have hwd := wanted_good he htr hw
          obtain ⟨d, g1, g2⟩ := defer_sim (w := w) (b := b) (hop.trans hdef) hval he hrd ho hwd (rest := is) (k := k) (cs := cs)
          have he2 := g1.put hdst VR.none
          obtain ⟨ρ', a', w', k1, k2, k3, k4, k5⟩ := sim ρ F w b _ k cs hr he2 hf hcalm
          exact ⟨ρ', a', w', k1, k2, k3, k4, g2.trans k5⟩
        · cases hev
      · rename_i hnd
        split at hev
        · rename_i u h1 hev1
          obtain ⟨n1, n2, sim⟩ := ops_sim ok hrec is as' _ _ _ _ hat' hev
          have n0 := evalOp_next hrec hev1
          refine ⟨Nat.le_trans n0 n1, by rw [n2]; unfold putV; split <;> rfl, ?_⟩
          intro ρ F w b a k cs hr he hf hcalm
          have hwd := wanted_good he htr hw
          obtain ⟨_, ρ1, u', w1, k1, k2, k3, k4, k5⟩ := op_sim ok hrec hop hev1 hr he (hf.left n1) hcalm ho hwd (rest := is) (k := k)
          have hx := k1.ext (hf.left n1)
          have he2 := (he.mono hx).put hdst k2
          obtain ⟨ρ', a', w', g1, g2, g3, g4, g5⟩ := sim ρ1 F w1 b _ k cs k3 he2 (hf.right k1 n0) hcalm
          exact ⟨ρ', a', w', k1.trans g1 n0 n1, g2, g3, k4.trans g4, k5.trans g5⟩
        · cases hev
    · rename_i hw
      obtain ⟨n1, n2, sim⟩ := ops_sim ok hrec is as' _ _ _ _ hat' hev
      refine ⟨n1, by rw [n2]; unfold putV; split <;> rfl, ?_⟩
      intro ρ F w b a k cs hr he hf hcalm
      have hwd := wanted_good he htr hw
      have he2 := he.put hdst VR.none
      obtain ⟨ρ', a', w', k1, k2, k3, k4, k5⟩ := sim ρ F w b _ k cs hr he2 hf hcalm
      refine ⟨ρ', a', w', k1, k2, k3, k4, .head ?_ k5⟩
      have := stepR_op_skip (P := C.P) (b := b) (a := a) (k := k) (cs := cs) (w := w) (ops := ops) (i := i) (rest := is) (by rw [ho]; simpa using hwd)
      rw [ho] at this
      exact this
    · cases hev

theorem At_range {ops : Array Oper} : ∀ (l : List Oper) (n : Nat) (as : List AOper), (∀ j o, l[j]? = some o → ops[n + j]? = some o) → l.mapM (trOper C.ty C.ib nt ops) = some as → At C nt ops (List.range' n l.length) as
  | [], n, as, _, h => by simp only [List.mapM_nil] at h; cases h; simp [At]
  | o :: l, n, as, hl, h => by
    simp only [List.mapM_cons] at h
    cases h1 : trOper C.ty C.ib nt ops o with
    | none => simp [h1] at h
    | some ao =>
      cases h2 : l.mapM (trOper C.ty C.ib nt ops) with
      | none => simp [h1, h2] at h
      | some as' =>
        simp [h1, h2] at h
        subst h
        simp only [List.length_cons, List.range'_succ]
        exact ⟨o, ao, as', by simpa using hl 0 o rfl, h1, rfl, At_range l (n + 1) as' (fun j o' ho => by
          have := hl (j + 1) o' (by simpa using ho)
          rwa [show n + (j + 1) = n + 1 + j by omega] at this) h2⟩

end
end Go.Am

