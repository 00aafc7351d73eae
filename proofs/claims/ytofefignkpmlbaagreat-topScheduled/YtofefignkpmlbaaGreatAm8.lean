/- An abstract machine for Go code and its soundness over the model; no condition of its own. Used by the proof that the law TopScheduled returns true at every input. -/
import Derived.Test.YtofefignkpmlbaaGreatAm7
namespace Go.Am
section
variable {C : Cx} {ρ : Map} {h h' : Heap} {F : Nat → Option FObj} {w : World} {env env' : Env} {a : Act} {b : Frame} {r : Rec} {o : Oper} {v : AV} {nt : Nat}

/-- What is known of regions that draw their order. -/
def DrawnOK (C : Cx) (r : Rec) : Prop :=
  ∀ nt id ops items env h env' h' ex, trDrawn C.ty C.ib nt ops = some items → evalCode r (.drawn items) env h = .ok (ex, env') h' → CodeSim C nt (.region id ops true) env h ex env' h'

theorem exitTo_code (id : Nat) (c : Code) (k : List Item) : exitTo id (.code c :: k) = exitTo id k := rfl

/-- A block of the abstract memory is forgotten, and what it was may change. -/
theorem HR.drop {w' : World} (hr : HR C ρ h F w) {x : Pos} {ob : AObj} {l : Loc} (hb : PT.get x h.t = some ob) (hl : ρ x = some l) (hw : ∀ c, c ≠ l.block → w'.heap[c]? = w.heap[c]?) (hne : ∀ cs, ob ≠ .cells cs none) : HR C ρ ⟨PT.rem x h.t, h.next⟩ F w' := by
  have hrem : ∀ {y : Pos} {o2 : AObj}, PT.get y (PT.rem x h.t) = some o2 → PT.get y h.t = some o2 ∧ y ≠ x := by
    intro y o2 e
    rw [PT.get_rem] at e
    split at e
    · cases e
    · rename_i hx; exact ⟨e, fun e2 => hx e2.symm⟩
  refine ⟨?_, ?_, ?_, ?_, ?_⟩
  · intro y o2 e
    obtain ⟨h1, h2⟩ := hrem e
    obtain ⟨k, h3, h4⟩ := hr.live y o2 h1
    refine ⟨k, h3, h4.mono (Ext.refl _) (hw _ ?_)⟩
    intro e2
    exact h2 (hr.inj y x o2 ob k l h1 hb h3 hl e2)
  · intro y y' o2 o3 k k' e e'
    exact hr.inj y y' o2 o3 k k' (hrem e).1 (hrem e').1
  · intro c o2 e
    exact (hr.frame c o2 e).congr (hw c (fun e2 => (hr.apart c o2 x ob l e hb hl).ne hne e2.symm))
  · intro c o2 y o3 k e e' hk
    exact hr.apart c o2 y o3 k e (hrem e').1 hk
  · intro y o2 e
    exact hr.below y o2 (hrem e).1

theorem HR.loopAt (hr : HR C ρ h F w) {x : Pos} {st : LoopState} {pend : AExit} {tmps : PT AV} {params : List Pos} {assign body : ACode} {d : Pos} (hb : PT.get x h.t = some (.loop st pend tmps params assign body d)) :
    ∃ l lp ld nt, ρ x = some l ∧ w.heap[l.block]? = some (.loop lp) ∧ lp.state = st ∧ lp.pending = pendingOf pend ∧ ER ρ tmps lp.tmps ∧
      lp.params.toList.mapM (trTmp nt) = some params ∧ trCode C.ty C.ib nt lp.assign = some assign ∧ trCode C.ty C.ib nt lp.body = some body ∧ nt ≤ lp.tmps.size ∧
      ρ d = some ld ∧ lp.defers = ld.block := by
  obtain ⟨l, h1, lp, ld, nt, h2⟩ := hr.live x _ hb
  exact ⟨l, lp, ld, nt, h1, h2⟩

theorem run_getObj {P : Program} {n : Nat} {x : Obj} (h : w.heap[n]? = some x) (hc : ∀ c e f, x ≠ .cells c e f) : (getObj n).run P w = .ok x w := by
  cases x <;> first
    | (exact absurd rfl (hc _ _ _))
    | simp [getObj, Sem.run, h]

theorem run_setObj {P : Program} {n : Nat} {x y : Obj} (h : w.heap[n]? = some x) (hc : ∀ c e f, x ≠ .cells c e f) : (setObj n y).run P w = .ok () { w with heap := w.heap.setIfInBounds n y } := by
  cases x <;> first
    | (exact absurd rfl (hc _ _ _))
    | simp [setObj, Sem.run, h]

theorem setIf_ne {n c : Nat} {y : Obj} (hc : c ≠ n) : (w.heap.setIfInBounds n y)[c]? = w.heap[c]? := by
  simp [Ne.symm hc]

theorem setIf_same {n : Nat} {x y : Obj} (h : w.heap[n]? = some x) : (w.heap.setIfInBounds n y)[n]? = some y := by
  have := (Array.getElem?_eq_some_iff.1 h).1
  simp [this]

/-- The frame behind a loop over a function goes on. -/
theorem step_endRange {P : Program} {l : Nat} {k : List Item} {cs : List Frame} {jump : Option Code} {w' : World} (hr : (Instr.endLoop l).run P w = .ok jump w') :
    step P (lone (b.atR a (.endRangeFunc l :: k)) cs w) = .next (lone (b.atR a ((jump.map Item.code).toList ++ k)) cs w') :=
  step_lone_go (by simp [stepG, stepG.exec, Frame.atR, Sem.runT_eq, hr])

theorem step_rangeFunc {P : Program} {f : Operand} {params : Array Tmp} {assign body : Code} {k : List Item} {cs : List Frame} {l : Nat} {mark : List Deferred} {w1 w2 : World} {g : FuncId} {args : Array Value}
    (h1 : (Instr.enterLoop b.fn a.tmps params assign body b.roundOf).run P w = .ok (l, mark) w1)
    (h2 : ((do let d ← resolve a.eval { callee := .value f, args := #[.const (.func (.yield l) #[] #[])], argTypes := #[] } 0; invoke d.target d.args : Sem Next)).run P w1 = .ok (.enter g args) w2) :
    step P (lone (b.atR a (.code (.rangeFunc f params assign body) :: k)) cs w) = .next (lone (Frame.enter P g args .normal) (b.atR ⟨a.tmps, mark ++ a.defers⟩ (.inRangeFunc l :: k) :: cs) w2) := by
  have he : (b.atR ⟨a.tmps, mark ++ a.defers⟩ (.inRangeFunc l :: k)).eval = a.eval := by
    funext x; cases x <;> rfl
  refine step_lone_go ?_
  have he2 : (({ fn := b.fn, tmps := a.tmps, todo := Item.inRangeFunc l :: k, defers := mark ++ a.defers, mode := .run, kind := b.kind, roundOf := b.roundOf } : Frame)).eval = a.eval := he
  simp only [stepG, stepG.exec, Frame.atR, Sem.runT_eq, h1, GStep.bare_after, stepG.apply, he2, h2]
  rfl

end
end Go.Am

namespace Go.Am
section
variable {C : Cx} {ρ : Map} {h h' : Heap} {F : Nat → Option FObj} {w : World} {env env' : Env} {a : Act} {b : Frame} {r : Rec} {o : Oper} {v : AV} {nt : Nat}

theorem stepR_scope {P : Program} {c : Code} {k : List Item} {cs : List Frame} : step P (lone (b.atR a (.code (.scope c) :: k)) cs w) = .next (lone (b.atR a (.code c :: .inScope c :: k)) cs w) :=
  step_lone_go (by simp [stepG, stepG.exec, Frame.atR])

theorem stepR_inScope {P : Program} {c : Code} {k : List Item} {cs : List Frame} : step P (lone (b.atR a (.inScope c :: k)) cs w) = .next (lone (b.atR a k) cs w) :=
  step_lone_go (by simp [stepG, stepG.exec, Frame.atR])

/-- Nothing but a step ahead of it is done. -/
theorem ItemSim.stand {it : Item} (hs : ∀ (b : Frame) a k cs w, step C.P (lone (b.atR a (it :: k)) cs w) = .next (lone (b.atR a k) cs w)) : ItemSim C nt it env h .normal env h :=
  ⟨Nat.le_refl _, rfl, fun ρ _ w b a k cs hr he _ _ => ⟨ρ, a, w, Out.refl _ _ _, hr, he, Same.refl w, .one (hs b a k cs w)⟩⟩

/-- One behind the other. -/
theorem ItemSim.seq {x y : Item} {it : Item} {ex : AExit} {env1 env2 : Env} {h1 h2 : Heap} (hs : ∀ (b : Frame) a k cs w, step C.P (lone (b.atR a (it :: k)) cs w) = .next (lone (b.atR a (x :: y :: k)) cs w))
    (s1 : ItemSim C nt x env h .normal env1 h1) (s2 : ItemSim C nt y env1 h1 ex env2 h2) : ItemSim C nt it env h ex env2 h2 := by
  obtain ⟨n1, m1, s1⟩ := s1
  obtain ⟨n2, m2, s2⟩ := s2
  refine ⟨Nat.le_trans n1 n2, m2.trans m1, ?_⟩
  intro ρ F w b a k cs hr he hf hcalm
  obtain ⟨ρ1, a1, w1, k1, k2, k3, k4, k5⟩ := s1 ρ F w b a (y :: k) cs hr he (hf.left n2) hcalm
  obtain ⟨ρ2, a2, w2, g1, g2, g3, g4, g5⟩ := s2 ρ1 F w1 b a1 k cs k2 k3 (hf.right k1 n1) hcalm
  exact ⟨ρ2, a2, w2, k1.trans g1 n1 n2, g2, g3, k4.trans g4, .of_steps (.head (hs b a k cs w) k5) g5⟩

/-- What leaves the first one leaves both. -/
theorem ItemSim.leave {x it : Item} {mid : Item} {ex : AExit} {env1 : Env} {h1 : Heap} (hne : ex ≠ .normal) (hx : ∀ id k, (∀ e, ex = .exit e → e = id → exitTo id (mid :: k) = exitTo id k))
    (hs : ∀ (b : Frame) a k cs w, step C.P (lone (b.atR a (it :: k)) cs w) = .next (lone (b.atR a (x :: mid :: k)) cs w)) (s1 : ItemSim C nt x env h ex env1 h1) : ItemSim C nt it env h ex env1 h1 := by
  obtain ⟨n1, m1, s1⟩ := s1
  refine ⟨n1, m1, ?_⟩
  intro ρ F w b a k cs hr he hf hcalm
  obtain ⟨ρ1, a1, w1, k1, k2, k3, k4, k5⟩ := s1 ρ F w b a (mid :: k) cs hr he hf hcalm
  refine ⟨ρ1, a1, w1, k1, k2, k3, k4, ?_⟩
  cases ex with
  | normal => exact absurd rfl hne
  | exit id =>
    obtain ⟨k', g1, g2⟩ := k5
    exact ⟨k', g1.trans (hx id k id rfl rfl), .head (hs b a k cs w) g2⟩
  | ret =>
    obtain ⟨k', g2⟩ := k5
    exact ⟨k', .head (hs b a k cs w) g2⟩

/-- A step ahead. -/
theorem ItemSim.ahead {x it : Item} {ex : AExit} {env1 : Env} {h1 : Heap} (s1 : ItemSim C nt x env h ex env1 h1)
    (hs : ∀ ρ b a k cs w, EnvR ρ env b a nt → step C.P (lone (b.atR a (it :: k)) cs w) = .next (lone (b.atR a (x :: k)) cs w)) : ItemSim C nt it env h ex env1 h1 := by
  obtain ⟨n1, m1, s1⟩ := s1
  refine ⟨n1, m1, ?_⟩
  intro ρ F w b a k cs hr he hf hcalm
  obtain ⟨ρ1, a1, w1, k1, k2, k3, k4, k5⟩ := s1 ρ F w b a k cs hr he hf hcalm
  exact ⟨ρ1, a1, w1, k1, k2, k3, k4, .of_steps (.one (hs ρ b a k cs w he)) k5⟩

/-- A loop over a function. -/
theorem rangeFunc_sim (hrec : RecOK C r) {f : Operand} {ps : Array Tmp} {as bd : Code} {c : ACode} {ex : AExit} (ht : trCode C.ty C.ib nt (.rangeFunc f ps as bd) = some c) (hev : evalCode r c env h = .ok (ex, env') h') :
    CodeSim C nt (.rangeFunc f ps as bd) env h ex env' h' := by
  simp [trCode, Option.bind_eq_some_iff] at ht
  obtain ⟨f', hf', ps', hps, as', has, bd', hbd, rfl⟩ := ht
  simp only [evalCode] at hev
  split at hev
  · cases hev
  · rename_i hrd
    split at hev
    · rename_i u h2 hcall
      split at hcall
      · rename_i g first captured hval
        split at hev
        · rename_i st pend tmps2 params2 assign2 body2 d2 hl2
          -- what comes of the call
          obtain ⟨n1, hgo, sim⟩ := hrec.call _ _ _ _ _ hcall
          have hev' : st ≠ .busy ∧ ex = pend ∧ env' = ⟨env.tmps, .collected h.next :: env.defers, env.round⟩ ∧ h' = ⟨PT.rem h.next.succ h2.t, h2.next⟩ := by
            split at hev
            · cases hev
            · rename_i hb; cases hev; exact ⟨hb, rfl, rfl, rfl⟩
          obtain ⟨hst, rfl, rfl, rfl⟩ := hev'
          have hnn : h.next.nat + 2 ≤ h2.next.nat := by
            have : h.next.succ.succ.nat ≤ h2.next.nat := n1
            rw [Pos.nat_succ, Pos.nat_succ] at this
            omega
          refine ⟨by show h.next.nat ≤ h2.next.nat; omega, rfl, ?_⟩
          intro ρ F w b a k cs hr he hf hcalm
          have hbr : b.roundOf = none := by have := he.round; rw [hrd] at this; exact this
          -- the two blocks of the loop
          have hfd : Fr ρ h.next h.next.succ := fun x h3 h4 => hf x h3 (by rw [Pos.nat_succ] at h4; show x.nat < h2.next.nat; omega)
          obtain ⟨ρ1, l1, hb1, _, o1, e1, hr1⟩ := HR.newObj (C := C) hr hfd .deferred (.deferred (some [])) (fun ρ' l hl _ => by simp [ObjR, hl])
          let w1 : World := { w with heap := w.heap.push (.deferred (some [])) }
          let lp : Loop := { state := .ready, pending := none, fn := b.fn, tmps := a.tmps, params := ps, assign := as, body := bd, defers := w.heap.size }
          have hx1 : Ext ρ ρ1 := o1.ext hfd
          have hfl : Fr ρ1 h.next.succ h.next.succ.succ := fun x h3 h4 => by
            rw [o1 x (.inr h3)]
            rw [Pos.nat_succ] at h3
            rw [Pos.nat_succ, Pos.nat_succ] at h4
            exact hf x (by omega) (by show x.nat < h2.next.nat; omega)
          have hn2 : ρ1 h.next.succ = none := hfl h.next.succ (Nat.le_refl _) (by rw [Pos.nat_succ h.next.succ]; omega)
          let ll : Loc := ⟨w1.heap.size, 0, 0⟩
          have hx2 : Ext ρ1 (ρ1.upd h.next.succ ll) := Map.upd_ext hn2
          have hr2 := hr1.alloc hn2 (.loop .ready .normal env.tmps ps' as' bd' h.next) (.loop lp) ll rfl (fun ρ' hxx => by
            refine ⟨lp, l1, nt, ?_, rfl, rfl, (he.tmps.mono hx1).mono hxx, hps, has, hbd, he.size, hxx _ _ e1, hb1.symm⟩
            show (w1.heap.push (.loop lp))[w1.heap.size]? = _
            simp)
          let w2 : World := { w1 with heap := w1.heap.push (.loop lp) }
          have hel : (Instr.enterLoop b.fn a.tmps ps as bd b.roundOf).run C.P w = .ok (w1.heap.size, [{ target := .collected w.heap.size, args := #[] }]) w2 := by
            rw [hbr]
            simp only [Instr.enterLoop, Sem.run_bind, run_newObj, Sem.run_pure, Result.andThen_ok]
            rfl
          -- the function
          have hv := val_good hf' he.tmps
          rw [hval] at hv
          simp only [VR] at hv
          obtain ⟨a', c', g1, g2, g3⟩ := hv
          have hx12 : Ext ρ (ρ1.upd h.next.succ ll) := hx1.trans hx2
          have hargs : VRs (ρ1.upd h.next.succ ll) (first ++ [AV.yield h.next.succ] ++ captured) (a' ++ [Value.func (.yield w1.heap.size) #[] #[]] ++ c') := by
            refine ((VRs.mono hx12 _ _ g2).append (VRs.cons ?_ VRs.nil)).append (VRs.mono hx12 _ _ g3)
            simp only [VR]
            exact ⟨ll, Map.upd_same _ _ _, rfl⟩
          have hinv : ((do let d ← resolve a.eval { callee := .value f, args := #[.const (.func (.yield w1.heap.size) #[] #[])], argTypes := #[] } 0; invoke d.target d.args : Sem Next)).run C.P w2 =
              .ok (.enter g.idx (a' ++ [Value.func (.yield w1.heap.size) #[] #[]] ++ c').toArray) w2 := by
            rw [run_call_value (f := f) rfl g1]
            simp only [invoke]
            rw [← hgo w2 _]
            congr 2
            apply Array.ext'
            simp [Act.eval]
          have o2 : Out ρ1 (ρ1.upd h.next.succ ll) h.next.succ h.next.succ.succ := Map.upd_out _ _ _
          have o12 : Out ρ (ρ1.upd h.next.succ ll) h.next h.next.succ.succ := o1.trans o2 (by rw [Pos.nat_succ]; omega) (by rw [Pos.nat_succ h.next.succ]; omega)
          have hf2 : Fr (ρ1.upd h.next.succ ll) h.next.succ.succ h2.next := by
            intro x h3 h4
            rw [o12 x (.inr h3)]
            rw [Pos.nat_succ, Pos.nat_succ] at h3
            exact hf x (by omega) h4
          let fr1 := b.atR ⟨a.tmps, { target := .collected w.heap.size, args := #[] } :: a.defers⟩ (.inRangeFunc w1.heap.size :: k)
          obtain ⟨ρ3, u', w3, fr, k1, k2, k3, k4, k5, k6, k7, k8, k9, fn, k10, k11⟩ := sim _ F w2 _ .normal (fr1 :: cs) hr2 hargs hf2 (.inl rfl)
          have hx3 : Ext (ρ1.upd h.next.succ ll) ρ3 := k1.ext hf2
          have s1 := step_rangeFunc (k := k) (cs := cs) (a := a) (P := C.P) hel hinv
          have s2 := step_back (c := fr1) (cs := cs) k6 k7 k8 (by rw [k9]; exact k10) k11
          have s3 : fr1.finish u' = b.atR ⟨a.tmps, { target := .collected w.heap.size, args := #[] } :: a.defers⟩ (.endRangeFunc w1.heap.size :: k) := rfl
          rw [s3] at s2
          -- the loop is over
          obtain ⟨l3, lp3, ld3, nt3, q1, q2, q3, q4, _⟩ := k3.loopAt hl2
          have hl3 : l3 = ll := by
            have := hx3 _ _ (Map.upd_same ρ1 h.next.succ ll)
            rw [this] at q1
            cases q1
            rfl
          subst hl3
          let w4 : World := { w3 with heap := w3.heap.setIfInBounds w1.heap.size (.loop { lp3 with state := .exhausted }) }
          have hend : (Instr.endLoop w1.heap.size).run C.P w3 = .ok lp3.pending w4 := by
            have hg := run_getObj (P := C.P) q2 (by simp)
            have hs := run_setObj (P := C.P) (y := .loop { lp3 with state := .exhausted }) q2 (by simp)
            have hnb : (lp3.state == LoopState.busy) = false := by rw [q3]; exact beq_eq_false_iff_ne.2 hst
            simp only [Instr.endLoop, Instr.getLoop, Sem.run_bind]
            rw [show w1.heap.size = ll.block from rfl, hg]
            simp only [Result.andThen_ok, Sem.run_pure, hnb, Bool.false_eq_true, if_false, Sem.run_bind, hs]
            rfl
          have hr4 : HR C ρ3 ⟨PT.rem h.next.succ h2.t, h2.next⟩ F w4 := k3.drop hl2 q1 (fun c hc => setIf_ne hc) (fun _ e => by cases e)
          have s4 := step_endRange (b := b) (a := ⟨a.tmps, { target := .collected w.heap.size, args := #[] } :: a.defers⟩) (k := k) (cs := cs) (P := C.P) hend
          have hxx : Ext ρ ρ3 := hx12.trans hx3
          have h12 : h.next.nat ≤ h.next.succ.succ.nat := by rw [Pos.nat_succ, Pos.nat_succ]; omega
          refine ⟨ρ3, ⟨a.tmps, { target := .collected w.heap.size, args := #[] } :: a.defers⟩, w4, o12.trans k1 h12 n1, hr4, ⟨he.tmps.mono hxx, ?_, he.round.mono hxx, he.size⟩, ?_, ?_⟩
          · exact ⟨l1, a.defers, hx3 _ _ (hx2 _ _ e1), by rw [hb1], he.defers.mono hxx⟩
          · have e1 : Same w w2 := ⟨rfl, rfl, rfl, by simp [w2, w1]; omega⟩
            have e2 : Same w3 w4 := ⟨rfl, rfl, rfl, by simp [w4]⟩
            exact (e1.trans k4).trans e2
          · have hsteps := Steps.head s1 (k5.trans (.head s2 (.one s4)))
            rw [q4] at hsteps
            cases ex with
            | normal => exact hsteps
            | exit id => exact ⟨k, rfl, hsteps⟩
            | ret => exact ⟨k, hsteps⟩
        · cases hev
      · cases hcall
    · cases hev

/-- Code, whatever it is. -/
theorem code_sim (ok : C.OK) (hrec : RecOK C r) (hdr : DrawnOK C r) : ∀ (code : Code) (c : ACode) (env : Env) (h : Heap) (ex : AExit) (env' : Env) (h' : Heap),
    trCode C.ty C.ib nt code = some c → evalCode r c env h = .ok (ex, env') h' → CodeSim C nt code env h ex env' h'
  | .skip, c, env, h, ex, env', h', ht, hev => by
    simp only [trCode, Option.some.injEq] at ht
    subst ht
    simp only [evalCode, R.ok.injEq, Prod.mk.injEq] at hev
    obtain ⟨⟨rfl, rfl⟩, rfl⟩ := hev
    exact .stand fun _ _ _ _ _ => stepR_skip
  | .label l, c, env, h, ex, env', h', ht, hev => by
    simp only [trCode, Option.some.injEq] at ht
    subst ht
    simp only [evalCode, R.ok.injEq, Prod.mk.injEq] at hev
    obtain ⟨⟨rfl, rfl⟩, rfl⟩ := hev
    exact .stand fun _ _ _ _ _ => stepR_label
  | .region id ops true, c, env, h, ex, env', h', ht, hev => by
    simp only [trCode] at ht
    obtain ⟨items, hi, rfl⟩ := Option.map_eq_some_iff.1 ht
    exact hdr nt id ops items env h env' h' ex hi hev
  | .region id ops false, c, env, h, ex, env', h', ht, hev => by
    simp only [trCode] at ht
    obtain ⟨as, has, rfl⟩ := Option.map_eq_some_iff.1 ht
    simp only [evalCode] at hev
    split at hev
    · rename_i e1 h1 hops
      cases hev
      have hat : At C nt ops (List.range ops.size) as := by
        have := At_range (C := C) (nt := nt) (ops := ops) ops.toList 0 as (fun j o ho => by simpa using ho) has
        rwa [Array.length_toList, ← List.range_eq_range'] at this
      obtain ⟨n1, m1, sim⟩ := ops_sim ok hrec _ as _ _ _ _ hat hops
      refine ⟨n1, m1, ?_⟩
      intro ρ F w b a k cs hr he hf hcalm
      obtain ⟨ρ1, a1, w1, k1, k2, k3, k4, k5⟩ := sim ρ F w b a k cs hr he hf hcalm
      exact ⟨ρ1, a1, w1, k1, k2, k3, k4, Steps.head stepR_region (k5.trans (.one stepR_region_end))⟩
    · cases hev
  | .seq x y, c, env, h, ex, env', h', ht, hev => by
    simp [trCode, Option.bind_eq_some_iff] at ht
    obtain ⟨x', hx, y', hy, rfl⟩ := ht
    simp only [evalCode] at hev
    split at hev
    · rename_i e1 h1 hx1
      exact .seq (fun _ _ _ _ _ => stepR_seq) (code_sim ok hrec hdr x x' env h _ _ _ hx hx1) (code_sim ok hrec hdr y y' _ _ _ _ _ hy hev)
    · rename_i res hne
      have hne2 : ex ≠ .normal := by
        rintro rfl
        exact hne env' h' hev
      exact .leave (mid := .code y) hne2 (fun _ _ _ _ _ => rfl) (fun _ _ _ _ _ => stepR_seq) (code_sim ok hrec hdr x x' env h _ _ _ hx hev)
  | .cond cnd x y, c, env, h, ex, env', h', ht, hev => by
    simp [trCode, Option.bind_eq_some_iff] at ht
    obtain ⟨c', hc, x', hx, y', hy, rfl⟩ := ht
    simp only [evalCode] at hev
    split at hev
    · rename_i e
      refine .ahead (code_sim ok hrec hdr x x' env h _ _ _ hx hev) ?_
      intro ρ b a k cs w he
      have h1 := val_good hc he.tmps
      rw [e] at h1
      simp only [VR] at h1
      have := stepR_cond (P := C.P) (b := b) (a := a) (k := k) (cs := cs) (w := w) (x := x) (y := y) h1
      simpa using this
    · rename_i e
      refine .ahead (code_sim ok hrec hdr y y' env h _ _ _ hy hev) ?_
      intro ρ b a k cs w he
      have h1 := val_good hc he.tmps
      rw [e] at h1
      simp only [VR] at h1
      have := stepR_cond (P := C.P) (b := b) (a := a) (k := k) (cs := cs) (w := w) (x := x) (y := y) h1
      simpa using this
    · cases hev
  | .block id x, c, env, h, ex, env', h', ht, hev => by
    simp only [trCode] at ht
    obtain ⟨x', hx, rfl⟩ := Option.map_eq_some_iff.1 ht
    simp only [evalCode] at hev
    split at hev
    · rename_i id' e1 h1 hx1
      have s1 := code_sim ok hrec hdr x x' env h _ _ _ hx hx1
      split at hev
      · rename_i hid
        have hid := Nat.eq_of_beq_eq_true hid
        subst hid
        cases hev
        obtain ⟨n1, m1, s1⟩ := s1
        refine ⟨n1, m1, ?_⟩
        intro ρ F w b a k cs hr he hf hcalm
        obtain ⟨ρ1, a1, w1, k1, k2, k3, k4, k', k5, k6⟩ := s1 ρ F w b a (.inBlock id :: k) cs hr he hf hcalm
        exact ⟨ρ1, a1, w1, k1, k2, k3, k4, Steps.head stepR_block (k6.trans (.one (stepR_exit (by rw [k5]; simp [exitTo]))))⟩
      · rename_i hid
        cases hev
        refine .leave (mid := .inBlock id) (by simp) ?_ (fun _ _ _ _ _ => stepR_block) s1
        intro id2 k e he1 he2
        cases he1
        subst he2
        have : (id == id') = false := by
          rw [beq_eq_false_iff_ne]
          rintro rfl
          simp at hid
        simp [exitTo, this]
    · rename_i res hne
      by_cases hn : ex = .normal
      · subst hn
        exact .seq (y := .inBlock id) (fun _ _ _ _ _ => stepR_block) (code_sim ok hrec hdr x x' env h _ _ _ hx hev) (.stand fun _ _ _ _ _ => stepR_inBlock)
      · refine .leave (mid := .inBlock id) hn ?_ (fun _ _ _ _ _ => stepR_block) (code_sim ok hrec hdr x x' env h _ _ _ hx hev)
        intro id2 k e he1 _
        exact absurd hev (by rw [he1]; exact hne e env' h')
  | .loop x, c, env, h, ex, env', h', ht, hev => by
    simp only [trCode] at ht
    obtain ⟨x', hx, rfl⟩ := Option.map_eq_some_iff.1 ht
    simp only [evalCode] at hev
    split at hev
    · rename_i e1 h1 hx1
      exact .seq (y := .inLoop x) (fun _ _ _ _ _ => stepR_loop) (code_sim ok hrec hdr x x' env h _ _ _ hx hx1) (hrec.loop nt x' x _ _ _ _ _ hx hev)
    · rename_i res hne
      have hne2 : ex ≠ .normal := by
        rintro rfl
        exact hne env' h' hev
      exact .leave (mid := .inLoop x) hne2 (fun _ _ _ _ _ => rfl) (fun _ _ _ _ _ => stepR_loop) (code_sim ok hrec hdr x x' env h _ _ _ hx hev)
  | .rangeFunc f ps as bd, c, env, h, ex, env', h', ht, hev => rangeFunc_sim hrec ht hev
  | .exit id, c, env, h, ex, env', h', ht, hev => by
    simp only [trCode, Option.some.injEq] at ht
    subst ht
    simp only [evalCode, R.ok.injEq, Prod.mk.injEq] at hev
    obtain ⟨⟨rfl, rfl⟩, rfl⟩ := hev
    exact ⟨Nat.le_refl _, rfl, fun ρ F w b a k cs hr he _ _ => ⟨ρ, a, w, Out.refl _ _ _, hr, he, Same.refl w, k, rfl, Steps.refl _ _⟩⟩
  | .scope x, c, env, h, ex, env', h', ht, hev => by
    simp only [trCode] at ht
    obtain ⟨x', hx, rfl⟩ := Option.map_eq_some_iff.1 ht
    simp only [evalCode] at hev
    by_cases hn : ex = .normal
    · subst hn
      exact .seq (y := .inScope x) (fun _ _ _ _ _ => stepR_scope) (code_sim ok hrec hdr x x' env h _ _ _ hx hev) (.stand fun _ _ _ _ _ => stepR_inScope)
    · exact .leave (mid := .inScope x) hn (fun _ _ _ _ _ => rfl) (fun _ _ _ _ _ => stepR_scope) (code_sim ok hrec hdr x x' env h _ _ _ hx hev)
  | .ret, c, env, h, ex, env', h', ht, hev => by
    simp only [trCode, Option.some.injEq] at ht
    subst ht
    simp only [evalCode, R.ok.injEq, Prod.mk.injEq] at hev
    obtain ⟨⟨rfl, rfl⟩, rfl⟩ := hev
    exact ⟨Nat.le_refl _, rfl, fun ρ F w b a k cs hr he _ _ => ⟨ρ, a, w, Out.refl _ _ _, hr, he, Same.refl w, k, Steps.refl _ _⟩⟩
  | .goto l, c, env, h, ex, env', h', ht, hev => by simp [trCode] at ht
  | .refuse s, c, env, h, ex, env', h', ht, hev => by simp [trCode] at ht

/-- A loop that goes on. -/
theorem loop_sim (ok : C.OK) (hrec : RecOK C r) (hdr : DrawnOK C r) {x : Code} {x' : ACode} {ex : AExit} (hx : trCode C.ty C.ib nt x = some x') (hev : evalCode r (.loop x') env h = .ok (ex, env') h') :
    ItemSim C nt (.inLoop x) env h ex env' h' := by
  simp only [evalCode] at hev
  split at hev
  · rename_i e1 h1 hx1
    exact .seq (y := .inLoop x) (fun _ _ _ _ _ => stepR_inLoop) (code_sim ok hrec hdr x x' env h _ _ _ hx hx1) (hrec.loop nt x' x _ _ _ _ _ hx hev)
  · rename_i res hne
    have hne2 : ex ≠ .normal := by
      rintro rfl
      exact hne env' h' hev
    exact .leave (mid := .inLoop x) hne2 (fun _ _ _ _ _ => rfl) (fun _ _ _ _ _ => stepR_inLoop) (code_sim ok hrec hdr x x' env h _ _ _ hx hev)

end
end Go.Am

namespace Go.Am
section
variable {C : Cx} {ρ : Map} {h h' : Heap} {F : Nat → Option FObj} {w : World} {env env' : Env} {a : Act} {b : Frame} {r : Rec} {o : Oper} {v : AV} {nt : Nat}

theorem params_good : ∀ {ps : List Tmp} {params : List Pos} {args : List AV} {args' : List Value} {e e' : PT AV} {tmps : Array Value}, ps.mapM (trTmp nt) = some params → setParams params args e = some e' → VRs ρ args args' → ER ρ e tmps → nt ≤ tmps.size →
    args'.length = ps.length ∧ ER ρ e' ((ps.zip args').foldl (fun tmps (t, x) => tmps.setIfInBounds t x) tmps) ∧ ((ps.zip args').foldl (fun tmps (t, x) => tmps.setIfInBounds t x) tmps).size = tmps.size
  | [], params, args, args', e, e', tmps, h1, h2, h3, h4, _ => by
    simp only [List.mapM_nil] at h1
    cases h1
    cases args with
    | nil =>
      simp only [setParams, Option.some.injEq] at h2
      simp only [VRs] at h3
      subst h2; subst h3
      exact ⟨rfl, h4, rfl⟩
    | cons x args => simp [setParams] at h2
  | t :: ps, params, args, args', e, e', tmps, h1, h2, h3, h4, h5 => by
    simp only [List.mapM_cons] at h1
    cases hp : trTmp nt t with
    | none => simp [hp] at h1
    | some p =>
      cases hps : ps.mapM (trTmp nt) with
      | none => simp [hp, hps] at h1
      | some qs =>
        simp [hp, hps] at h1
        subst h1
        cases args with
        | nil => simp [setParams] at h2
        | cons x args =>
          simp only [setParams] at h2
          simp only [VRs] at h3
          obtain ⟨y, ys, rfl, h6, h7⟩ := h3
          have h8 := h4.put hp h5 h6
          obtain ⟨g1, g2, g3⟩ := params_good hps h2 h7 h8 (by rw [Array.size_setIfInBounds]; exact h5)
          refine ⟨by simp [g1], ?_, ?_⟩
          · simpa using g2
          · simpa using g3

theorem Frame.round_eq (l : Nat) (f : FuncId) (tm : Array Value) (as bd : Code) (k : CallKind) : Frame.round l f tm as bd k = (Frame.round l f tm as bd k).atR ⟨tm, []⟩ [.code as, .beginRound, .code bd] := rfl

/-- What a round's end leaves in the loop. -/
theorem endRound_good (hr : HR C ρ h F w) {l : Pos} {st : LoopState} {pend : AExit} {t : PT AV} {p : List Pos} {x y : ACode} {d : Pos} (hl : PT.get l h.t = some (.loop st pend t p x y d)) {lc : Loc} (hlc : ρ l = some lc) (ex : AExit) :
    ∃ w', (Instr.endRound lc.block (pendingOf ex)).run C.P w = .ok (.bool (pendingOf ex).isNone) w' ∧ Same w w' ∧
      HR C ρ ⟨PT.set l (.loop (if (pendingOf ex).isNone then .ready else .done) ex t p x y d) h.t, h.next⟩ F w' := by
  obtain ⟨l2, lp, ld, nt, q1, q2, q3, q4, q5, q6, q7, q8, q9, q10, q11⟩ := hr.loopAt hl
  rw [hlc] at q1
  cases q1
  have hg := run_getObj (P := C.P) q2 (by simp)
  have hs := run_setObj (P := C.P) (y := .loop { lp with state := if (pendingOf ex).isNone then .ready else .done, pending := pendingOf ex }) q2 (by simp)
  refine ⟨{ w with heap := w.heap.setIfInBounds lc.block (.loop { lp with state := if (pendingOf ex).isNone then .ready else .done, pending := pendingOf ex }) }, ?_, ⟨rfl, rfl, rfl, by simp⟩, ?_⟩
  · simp only [Instr.endRound, Instr.getLoop, Sem.run_bind, hg, Result.andThen_ok, Sem.run_pure, hs]
  · exact hr.update hl hlc (fun c hc => setIf_ne hc) ⟨{ lp with state := if (pendingOf ex).isNone then .ready else .done, pending := pendingOf ex }, ld, nt, setIf_same q2, rfl, rfl, q5, q6, q7, q8, q9, q10, q11⟩ (FObj.whole (fun _ e => by cases e))

/-- A round of a loop over a function. -/
theorem yield_sim (ok : C.OK) (hrec : RecOK C r) (hdr : DrawnOK C r) {l : Pos} {args : List AV} (hev : evalYield r l args h = .ok v h') : YieldSim C l args h v h' := by
  unfold evalYield at hev
  split at hev
  · rename_i pend tmps params assign body d hl
    split at hev
    · rename_i tm htm
      split at hev
      · rename_i env1 h1 has
        split at hev
        · rename_i q1 t1 p1 a1' b1 d1 hl1
          split at hev
          · rename_i ex env2 h2 hbd
            split at hev
            · rename_i st2 q2 t2 p2 a2 b2 d2 hl2
              have hev' : v = .bool (pendingOf ex).isNone ∧ h' = ⟨PT.set l (.loop (if (pendingOf ex).isNone then .ready else .done) ex t2 p2 a2 b2 d2) h2.t, h2.next⟩ := by
                split at hev
                · cases hev; exact ⟨rfl, rfl⟩
                · rename_i hne
                  cases hev
                  cases ex with
                  | normal => exact absurd rfl hne
                  | exit id => exact ⟨rfl, rfl⟩
                  | ret => exact ⟨rfl, rfl⟩
              obtain ⟨rfl, rfl⟩ := hev'
              have n1 := evalCode_next hrec.next _ _ _ _ _ has
              have n2' := evalCode_next hrec.next _ _ _ _ _ hbd
              have n2 : h1.next.nat ≤ h2.next.nat := n2'
              refine ⟨Nat.le_trans n1 n2, ?_⟩
              intro ρ F w args' lc hr hv hlc hf
              obtain ⟨lc', lp, ld, nt, c1, c2, c3, c4, c5, c6, c7, c8, c9, c10, c11⟩ := hr.loopAt hl
              rw [hlc] at c1
              cases c1
              obtain ⟨g1, g2, g3⟩ := params_good c6 htm hv c5 c9
              have hgl := run_getObj (P := C.P) c2 (by simp)
              have hyield : (Instr.yield lc.block args'.toArray).run C.P w = .ok (.round lc.block lp.fn ((lp.params.toList.zip args').foldl (fun tmps (t, x) => tmps.setIfInBounds t x) lp.tmps) lp.assign lp.body) w := by
                have hsz : args'.toArray.size = lp.params.size := by simp [g1]
                simp only [Instr.yield, Instr.getLoop, Sem.run_bind, hgl, Result.andThen_ok, Sem.run_pure]
                rw [if_neg (by simp [hsz])]
                simp only [Sem.run_pure]
                congr 2
                rw [← Array.foldl_toList, Array.toList_zip]
              refine ⟨lp.fn, _, lp.assign, lp.body, hyield, ?_⟩
              intro c cs
              generalize htmps : (lp.params.toList.zip args').foldl (fun tmps (t, x) => tmps.setIfInBounds t x) lp.tmps = tmps1 at g2 g3
              let b0 := Frame.round lc.block lp.fn tmps1 lp.assign lp.body .normal
              have he0 : EnvR ρ ⟨tm, [], some l⟩ b0 ⟨tmps1, []⟩ nt := ⟨g2, rfl, ⟨lc, hlc, rfl⟩, by rw [g3]; exact c9⟩
              obtain ⟨_, m1, s1⟩ := code_sim (nt := nt) ok hrec hdr lp.assign assign _ _ _ _ _ c7 has
              obtain ⟨ρ1, a1, w1, k1, k2, k3, k4, k5⟩ := s1 ρ F w b0 ⟨tmps1, []⟩ [.beginRound, .code lp.body] (c :: cs) hr he0 (hf.left n2) (.inl rfl)
              have hx1 : Ext ρ ρ1 := k1.ext (hf.left n2)
              -- the round begins
              obtain ⟨lc1, lp1, ld1, nt1, d1', d2', d3, d4, d5, d6, d7, d8, d9, d10, d11⟩ := k2.loopAt hl1
              rw [hx1 _ _ hlc] at d1'
              cases d1'
              have hgl1 := run_getObj (P := C.P) d2' (by simp)
              have hsl1 := run_setObj (P := C.P) (y := .loop { lp1 with state := .busy }) d2' (by simp)
              have hbegin : (Instr.beginRound lc.block).run C.P w1 = .ok () { w1 with heap := w1.heap.setIfInBounds lc.block (.loop { lp1 with state := .busy }) } := by
                simp only [Instr.beginRound, Instr.getLoop, Sem.run_bind, hgl1, Result.andThen_ok, Sem.run_pure, hsl1, d3]
              have hr2 : HR C ρ1 ⟨PT.set l (.loop .busy q1 t1 p1 a1' b1 d1) h1.t, h1.next⟩ F { w1 with heap := w1.heap.setIfInBounds lc.block (.loop { lp1 with state := .busy }) } :=
                k2.update hl1 (hx1 _ _ hlc) (fun cc hcc => setIf_ne hcc) ⟨{ lp1 with state := .busy }, ld1, nt1, setIf_same d2', rfl, d4, d5, d6, d7, d8, d9, d10, d11⟩ (FObj.whole (fun _ e => by cases e))
              -- its body
              obtain ⟨_, m2, s2⟩ := code_sim (nt := nt) ok hrec hdr lp.body body _ _ _ _ _ c8 hbd
              obtain ⟨ρ2, a2', w2, y1, y2, y3, y4, y5⟩ := s2 ρ1 F _ b0 a1 [] (c :: cs) hr2 k3 (hf.right k1 n1) (.inl rfl)
              have hx2 : Ext ρ1 ρ2 := y1.ext (hf.right k1 n1)
              obtain ⟨w3, z1, z2, z3⟩ := endRound_good y2 hl2 (hx2 _ _ (hx1 _ _ hlc)) ex
              refine ⟨ρ2, .bool (pendingOf ex).isNone, w3, k1.trans y1 n1 n2, VR.bool, z3, ?_, ?_⟩
              · have e1 : Same w1 { w1 with heap := w1.heap.setIfInBounds lc.block (.loop { lp1 with state := .busy }) } := ⟨rfl, rfl, rfl, by simp⟩
                exact ((k4.trans e1).trans y4).trans z2
              · have hb0 : b0.roundOf = some lc.block := rfl
                have t1 := stepR_beginRound (P := C.P) (b := b0) (a := a1) (k := [.code lp.body]) (cs := c :: cs) hb0 hbegin
                have head : Steps C.P (lone (Frame.round lc.block lp.fn tmps1 lp.assign lp.body .normal) (c :: cs) w) (lone (b0.atR a1 [.code lp.body]) (c :: cs) { w1 with heap := w1.heap.setIfInBounds lc.block (.loop { lp1 with state := .busy }) }) :=
                  Steps.trans k5 (.one t1)
                cases ex with
                | normal => exact head.trans (Steps.trans y5 (.one (stepR_round_end hb0 rfl z1)))
                | exit id =>
                  obtain ⟨k', x1, x2⟩ := y5
                  exact head.trans (x2.trans (.one (stepR_round_exit hb0 rfl (by rw [x1]; rfl) z1)))
                | ret =>
                  obtain ⟨k', x2⟩ := y5
                  exact head.trans (x2.trans (.one (stepR_round_ret hb0 rfl z1)))
            · cases hev
          · cases hev
        · cases hev
      · cases hev
      · cases hev
    · cases hev
  · cases hev

end
end Go.Am

