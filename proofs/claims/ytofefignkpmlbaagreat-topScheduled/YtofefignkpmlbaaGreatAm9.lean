/- An abstract machine for Go code and its soundness over the model; no condition of its own. Used by the proof that the law TopScheduled returns true at every input. -/
import Derived.Test.YtofefignkpmlbaaGreatAm8
namespace Go.Am
section
variable {C : Cx} {ρ : Map} {h h' : Heap} {F : Nat → Option FObj} {w : World} {env env' : Env} {a : Act} {b : Frame} {r : Rec} {o : Oper} {v : AV} {nt : Nat}

theorem setArgs_get : ∀ (args : List AV) (q : Pos) (e : PT AV) (p : Pos), PT.get p (setArgs args q e) = if q.idx ≤ p.idx ∧ p.idx < q.idx + args.length then args[p.idx - q.idx]? else PT.get p e
  | [], q, e, p => by simp only [setArgs, List.length_nil, Nat.add_zero]; rw [if_neg (by omega)]
  | x :: args, q, e, p => by
    have hs : q.succ.idx = q.idx + 1 := by
      have := q.nat_pos
      simp only [Pos.idx, Pos.nat_succ]
      omega
    simp only [setArgs]
    rw [setArgs_get args q.succ _ p, hs, PT.get_set]
    simp only [List.length_cons]
    by_cases h1 : q.idx + 1 ≤ p.idx ∧ p.idx < q.idx + 1 + args.length
    · rw [if_pos h1, if_pos (by omega), show p.idx - q.idx = (p.idx - (q.idx + 1)) + 1 by omega]
      simp
    · rw [if_neg h1]
      by_cases h2 : q = p
      · subst h2
        rw [if_pos rfl, if_pos (by omega)]
        simp
      · have h3 : q.idx ≠ p.idx := fun e => h2 (Pos.idx_inj e)
        rw [if_neg h2, if_neg (by omega)]

theorem args_good {args : List AV} {args' : List Value} (h : VRs ρ args args') (n : Nat) : ER ρ (setArgs args .H .E) (args'.toArray ++ Array.replicate n undef) := by
  intro p
  rw [setArgs_get]
  have hH : Pos.H.idx = 0 := rfl
  rw [hH]
  by_cases h1 : 0 ≤ p.idx ∧ p.idx < 0 + args.length
  · rw [if_pos h1, Nat.sub_zero]
    have hlt : p.idx < args.length := by omega
    obtain ⟨y, h2, h3⟩ := h.getElem (List.getElem?_eq_getElem hlt)
    rw [List.getElem?_eq_getElem hlt]
    simp only [Option.getD_some, Array.getD_eq_getD_getElem?]
    have h4 : p.idx < args'.toArray.size := by
      have := (List.getElem?_eq_some_iff.1 h2).1
      simpa using this
    rw [Array.getElem?_append_left h4]
    simp only [List.getElem?_toArray, h2, Option.getD_some]
    exact h3
  · rw [if_neg h1]
    simp [VR]

/-- The functions of a table are the program's. -/
def TblOK (C : Cx) (T : PT AFunc) : Prop := ∀ f af, PT.get f T = some af → ∃ fn, C.P.funcs[f.idx]? = some fn ∧ (fn.name == "runtime.NumGoroutine") = false ∧ trFunc C.ty C.ib fn = some af

theorem run_callFunc {P : Program} {f : FuncId} {fn : Func} (hf : P.funcs[f]? = some fn) (hn : (fn.name == "runtime.NumGoroutine") = false) (hb : fn.body.isSome = true) (w : World) (as : Array Value) :
    (callFunc f as).run P w = .ok (.enter f as) w := by
  have : fn.body.isNone = false := by cases h : fn.body <;> simp_all
  simp only [callFunc, Sem.run_bind, run_program, Result.andThen_ok, hf, hn, this, Bool.false_eq_true, if_false, Sem.run_pure]

/-- A frame at its end. -/
def Frame.ends (b : Frame) (a : Act) (todo : List Item) : Frame := { b.atR a todo with mode := .returning }

theorem step_collected {P : Program} {todo : List Item} {cs : List Frame} {n : Nat} {ds : List Deferred} {tm : Array Value} {w' : World} (hr : (Instr.takeDeferred n).run P w = .ok [] w') :
    step P (lone (Frame.ends b ⟨tm, { target := .collected n, args := #[] } :: ds⟩ todo) cs w) = .next (lone (Frame.ends b ⟨tm, ds⟩ todo) cs w') :=
  step_lone_go (by simp [stepG, unwind, Frame.ends, Frame.atR, Sem.runT_eq, hr])

theorem step_deferred {P : Program} {todo : List Item} {cs : List Frame} {f : FuncId} {cap args : Array Value} {ds : List Deferred} {tm : Array Value} (hr : (callFunc f (args ++ cap)).run P w = .ok (.enter f (args ++ cap)) w) :
    step P (lone (Frame.ends b ⟨tm, { target := .fn (.func f) cap, args } :: ds⟩ todo) cs w) = .next (lone (Frame.enter P f (args ++ cap) .deferred) (Frame.ends b ⟨tm, ds⟩ todo :: cs) w) :=
  step_lone_go (by simp [stepG, unwind, callDeferred, Frame.ends, Frame.atR, Sem.runT_eq, invoke, hr])

theorem step_back_deferred {P : Program} {fr c : Frame} {cs : List Frame} {u : Value} {fn : Func} (hm : fr.mode = .returning) (hd : fr.defers = []) (hk : fr.kind = .deferred) (hf : P.funcs[fr.fn]? = some fn) (hr : (results fn fr.tmps).run P w = .ok u w) (hc : c.mode = .returning) :
    step P (lone fr (c :: cs) w) = .next (lone c cs w) :=
  step_lone_go (by simp [stepG, unwind, doReturn, hm, hd, hk, hf, Sem.runT_eq, hr, hc])

/-- The deferred calls are made. -/
theorem defers_sim (hrec : RecOK C r) : ∀ (ds : List ADef) (h : Heap) (u : Unit) (h' : Heap), evalDefers r ds h = .ok u h' →
    ∀ ρ F w (b : Frame) tm todo cs l, HR C ρ h F w → DR ρ ds l → Fr ρ h.next h'.next →
      ∃ ρ' w', Out ρ ρ' h.next h'.next ∧ HR C ρ' h' F w' ∧ Same w w' ∧ Steps C.P (lone (Frame.ends b ⟨tm, l⟩ todo) cs w) (lone (Frame.ends b ⟨tm, []⟩ todo) cs w')
  | [], h, u, h', hev, ρ, F, w, b, tm, todo, cs, l, hr, hd, hf => by
    simp only [evalDefers, R.ok.injEq] at hev
    obtain ⟨_, rfl⟩ := hev
    simp only [DR] at hd
    subst hd
    exact ⟨ρ, w, Out.refl _ _ _, hr, Same.refl w, Steps.refl _ _⟩
  | .collected x :: ds, h, u, h', hev, ρ, F, w, b, tm, todo, cs, l, hr, hd, hf => by
    simp only [evalDefers] at hev
    split at hev
    · rename_i hx
      obtain ⟨k, l', h1, rfl, h3⟩ := hd
      obtain ⟨k2, h4, h5⟩ := hr.live x _ hx
      rw [h1] at h4
      cases h4
      simp only [ObjR] at h5
      have hg := run_getObj (P := C.P) h5 (by simp)
      have hs := run_setObj (P := C.P) (y := .deferred none) h5 (by simp)
      have ht : (Instr.takeDeferred k.block).run C.P w = .ok [] { w with heap := w.heap.setIfInBounds k.block (.deferred none) } := by
        simp only [Instr.takeDeferred, Sem.run_bind, hg, Result.andThen_ok, hs, Sem.run_pure]
      have hr2 := hr.drop hx h1 (w' := { w with heap := w.heap.setIfInBounds k.block (.deferred none) }) (fun c hc => setIf_ne hc) (fun _ e => by cases e)
      obtain ⟨ρ', w', g1, g2, g3, g4⟩ := defers_sim hrec ds _ _ _ hev ρ F _ b tm todo cs l' hr2 h3 hf
      exact ⟨ρ', w', g1, g2, (⟨rfl, rfl, rfl, by simp⟩ : Same w { w with heap := w.heap.setIfInBounds k.block (.deferred none) }).trans g3, .head (step_collected ht) g4⟩
    · cases hev
  | .call f args :: ds, h, u, h', hev, ρ, F, w, b, tm, todo, cs, l, hr, hd, hf => by
    simp only [evalDefers] at hev
    split at hev
    · rename_i v h1 hcall
      obtain ⟨args', cap, l', rfl, h2, h3⟩ := hd
      obtain ⟨n1, hgo, sim⟩ := hrec.call _ _ _ _ _ hcall
      have n2 := evalDefers_next hrec.next ds h1 u h' hev
      obtain ⟨ρ1, u1, w1, fr, k1, k2, k3, k4, k5, k6, k7, k8, k9, fn, k10, k11⟩ := sim ρ F w (args' ++ cap) .deferred (Frame.ends b ⟨tm, l'⟩ todo :: cs) hr h2 (hf.left n2) (.inr ⟨rfl, _, _, rfl, rfl⟩)
      have hx := k1.ext (hf.left n2)
      obtain ⟨ρ', w', g1, g2, g3, g4⟩ := defers_sim hrec ds _ _ _ hev ρ1 F w1 b tm todo cs l' k3 (h3.mono hx) (hf.right k1 n1)
      have s1 := step_deferred (P := C.P) (b := b) (todo := todo) (cs := cs) (ds := l') (tm := tm) (hgo w (args'.toArray ++ cap.toArray))
      have s2 := step_back_deferred (c := Frame.ends b ⟨tm, l'⟩ todo) (cs := cs) k6 k7 k8 (by rw [k9]; exact k10) k11 rfl
      have e1 : args'.toArray ++ cap.toArray = (args' ++ cap).toArray := by simp
      rw [e1] at s1
      exact ⟨ρ', w', k1.trans g1 n1 n2, g2, k4.trans g3, .head s1 (k5.trans (.head s2 g4))⟩
    · cases hev

/-- One result read. -/
def readRes (tmps : Array Value) : ResultVar → Sem Value
  | .tmp t => pure (tmps.getD t undef)
  | .cell a t => do loadVar t (← asAddr (tmps.getD a undef))

theorem results_eq (fn : Func) (tmps : Array Value) : results fn tmps = (do
    let vs ← fn.results.mapM (readRes tmps)
    pure (if h : vs.size = 1 then vs[0] else .tuple vs)) := by
  have : readRes tmps = fun x => (match x with | .tmp t => pure (tmps.getD t undef) | .cell a t => do loadVar t (← asAddr (tmps.getD a undef)) : Sem Value) := by
    funext x; cases x <;> rfl
  rw [this]
  rfl

theorem result_good (ok : C.OK) {tm : PT AV} {tmps : Array Value} (hr : HR C ρ h F w) (he : ER ρ tm tmps) {x : ResultVar} {y : ARes} (ht : trRes C.ty x = some y) {v : AV} (hv : evalResult tm h y = some v) :
    ∃ u, (readRes tmps x).run C.P w = .ok u w ∧ VR ρ v u := by
  cases x with
  | tmp t =>
    simp only [trRes] at ht
    split at ht
    · rename_i hlt
      cases ht
      simp only [evalResult, Option.some.injEq] at hv
      have h1 : trArg (.tmp t) = some (.t (.ofIdx t)) := by simp [trArg]; exact hlt
      have h2 := val_good (a := ⟨tmps, []⟩) h1 he
      rw [hv] at h2
      exact ⟨_, rfl, h2⟩
    · cases ht
  | cell a t =>
    simp only [trRes] at ht
    split at ht
    · rename_i hlt
      obtain ⟨i, hi, rfl⟩ := Option.map_eq_some_iff.1 ht
      have h1 : trArg (.tmp a) = some (.t (.ofIdx a)) := by simp [trArg]; exact hlt
      have h2 := val_good (a := ⟨tmps, []⟩) h1 he
      simp only [evalResult] at hv
      split at hv
      · rename_i b off e
        rw [e] at h2
        simp only [VR, Act.eval] at h2
        obtain ⟨l, hl, hx⟩ := h2
        simp only [readRes, hx, Sem.run_bind, asAddr, Sem.run_pure, Result.andThen_ok]
        split at hv
        · rename_i cs sp hb
          obtain ⟨c, ety, h2, h3, _⟩ := hr.row hb hl
          split at hv
          · rename_i hn
            rw [nth_eq] at hv
            obtain ⟨x', h4, h5⟩ := h3 _ _ hv
            have hagg : i.agg = false := by unfold TI.cells at hn; split at hn <;> simp_all
            exact ⟨x', by simp [loadVar, run_agg ok hi w, hagg, cell_of_rowAt h2, h4], h5⟩
          · rename_i k hk
            split at hv
            · rename_i rr hrr
              cases hv
              have hagg : i.agg = true ∧ i.size = k := by unfold TI.cells at hk; split at hk <;> simp_all
              obtain ⟨vs, h4, h5, h6⟩ := read_cells (C := C) hr hb hl hrr
              exact ⟨.agg vs.toArray, by simp [loadVar, run_agg ok hi w, hagg.1, run_size ok hi w, hagg.2, h6], by simp only [VR]; exact ⟨vs, rfl, h4⟩⟩
            · cases hv
        · cases hv
      · cases hv
    · cases ht

theorem results_good (ok : C.OK) {tm : PT AV} {tmps : Array Value} (hr : HR C ρ h F w) (he : ER ρ tm tmps) : ∀ {xs : List ResultVar} {ys : List ARes}, xs.mapM (trRes C.ty) = some ys → ∀ {vs : List AV}, evalResults tm h ys = some vs →
    ∃ us, (xs.mapM (readRes tmps)).run C.P w = .ok us w ∧ VRs ρ vs us
  | [], ys, h1, vs, h2 => by
    simp only [List.mapM_nil] at h1
    cases h1
    simp only [evalResults, Option.some.injEq] at h2
    subst h2
    exact ⟨[], rfl, VRs.nil⟩
  | x :: xs, ys, h1, vs, h2 => by
    simp only [List.mapM_cons] at h1
    cases hx : trRes C.ty x with
    | none => simp [hx] at h1
    | some y =>
      cases hxs : xs.mapM (trRes C.ty) with
      | none => simp [hx, hxs] at h1
      | some ys' =>
        simp [hx, hxs] at h1
        subst h1
        simp only [evalResults] at h2
        split at h2
        · rename_i v rr e1 e2
          cases h2
          obtain ⟨u, g1, g2⟩ := result_good ok hr he hx e1
          obtain ⟨us, g3, g4⟩ := results_good ok hr he hxs e2
          refine ⟨u :: us, ?_, VRs.cons g2 g4⟩
          simp only [List.mapM_cons, Sem.run_bind, g1, Result.andThen_ok, g3, Sem.run_pure]
        · cases h2

/-- A call. -/
theorem call_sim (ok : C.OK) {T : PT AFunc} (hT : TblOK C T) (hrec : RecOK C r) (hdr : DrawnOK C r) {f : Pos} {args : List AV} (hev : evalCall T r f args h = .ok v h') : CallSim C f args h v h' := by
  have hnext := evalCall_next hrec.next hev
  unfold evalCall at hev
  split at hev
  · cases hev
  · rename_i af haf
    obtain ⟨fn, hfn, hname, htr⟩ := hT f af haf
    simp only [trFunc] at htr
    cases hbody : fn.body with
    | none => simp [hbody] at htr
    | some body =>
      cases hcode : trCode C.ty C.ib fn.ntmps body with
      | none => simp [hbody, hcode] at htr
      | some ac =>
        cases hres : fn.results.toList.mapM (trRes C.ty) with
        | none => simp [hbody, hcode, hres] at htr
        | some rs =>
          simp [hbody, hcode, hres] at htr
          subst htr
          refine ⟨hnext, fun w as => run_callFunc hfn hname (by rw [hbody]; rfl) w as, ?_⟩
          intro ρ F w args' kind cs hr hv hf hcalm
          split at hev
          · rename_i ex env1 h1 hbd
            have hcs := code_sim (nt := fn.ntmps) ok hrec hdr body ac _ _ _ _ _ hcode hbd
            obtain ⟨n1, m1, sim⟩ := hcs
            split at hev
            · cases hev
            · rename_i hne
              split at hev
              · rename_i u h2 hdef
                have n2 := evalDefers_next hrec.next _ _ _ _ hdef
                have hh : h' = h2 ∧ ∃ vs, evalResults env1.tmps h2 rs = some vs ∧ v = (match vs with | [x] => x | vs => .tup vs) := by
                  split at hev
                  · rename_i x e; cases hev; exact ⟨rfl, _, e, rfl⟩
                  · rename_i vs hvs e; cases hev; exact ⟨rfl, vs, e, by split <;> first | rfl | (exact absurd rfl (hvs _))⟩
                  · cases hev
                obtain ⟨rfl, vs, hvs, rfl⟩ := hh
                let b0 := Frame.enter C.P f.idx args'.toArray kind
                let tm0 := args'.toArray ++ Array.replicate (fn.ntmps - args'.toArray.size) undef
                have hb0 : b0 = b0.atR ⟨tm0, []⟩ [.code body] := by
                  simp only [b0, Frame.enter, Frame.atR, hfn, hbody, Option.map_some, Option.getD_some, Option.bind_some]
                  rfl
                have he0 : EnvR ρ ⟨setArgs args .H .E, [], none⟩ b0 ⟨tm0, []⟩ fn.ntmps := ⟨args_good hv _, rfl, rfl, by simp [tm0]; omega⟩
                obtain ⟨ρ1, a1, w1, k1, k2, k3, k4, k5⟩ := sim ρ F w b0 ⟨tm0, []⟩ [] cs hr he0 (hf.left n2) hcalm
                have hx1 := k1.ext (hf.left n2)
                have hrd : b0.roundOf = none := rfl
                -- to the end of the body
                have hend : ∃ todo, Steps C.P (lone b0 cs w) (lone (Frame.ends b0 a1 todo) cs w1) := by
                  rw [hb0]
                  cases ex with
                  | normal => exact ⟨[], Steps.trans k5 (.one (stepR_end hrd))⟩
                  | exit id => exact absurd rfl (hne id)
                  | ret =>
                    obtain ⟨k', k5⟩ := k5
                    exact ⟨.code .ret :: k', k5.trans (.one (stepR_ret hrd))⟩
                obtain ⟨todo, hend⟩ := hend
                obtain ⟨ρ2, w2, g1, g2, g3, g4⟩ := defers_sim hrec _ _ _ _ hdef ρ1 F w1 b0 a1.tmps todo cs a1.defers k2 k3.defers (hf.right k1 n1)
                have hx2 := g1.ext (hf.right k1 n1)
                obtain ⟨us, s1, s2⟩ := results_good ok g2 (k3.tmps.mono hx2) hres hvs
                have hresults : (results fn a1.tmps).run C.P w2 = .ok (if hsz : us.toArray.size = 1 then us.toArray[0] else .tuple us.toArray) w2 := by
                  simp only [results_eq, Sem.run_bind]
                  rw [Array.mapM_eq_mapM_toList]
                  simp only [Sem.run_map, s1, Result.andThen_ok, Sem.run_pure]
                refine ⟨ρ2, _, w2, Frame.ends b0 ⟨a1.tmps, []⟩ todo, k1.trans g1 n1 n2, ?_, g2, k4.trans g3, hend.trans g4, rfl, rfl, rfl, rfl, fn, hfn, hresults⟩
                have hlen := s2.length
                split
                · rename_i x
                  simp only [VRs] at s2
                  obtain ⟨y, ys, rfl, q1, rfl⟩ := s2
                  simpa using q1
                · rename_i vs hvs1
                  have hne1 : us.toArray.size ≠ 1 := by
                    intro e
                    simp only [List.size_toArray] at e
                    rw [e] at hlen
                    obtain ⟨x, hx⟩ := List.length_eq_one_iff.1 hlen.symm
                    exact hvs1 x hx
                  rw [dif_neg hne1]
                  simp only [VR]
                  exact ⟨us, rfl, s2⟩
              · cases hev
          · cases hev

/-- All that evaluation does, to any depth, the program does. -/
theorem fix_sim (ok : C.OK) {T : PT AFunc} (hT : TblOK C T) (hdr : ∀ r, RecOK C r → DrawnOK C r) : ∀ n, RecOK C (fix T n)
  | 0 => ⟨fix_next T 0, fun _ _ _ _ _ e => (by cases e), fun _ _ _ _ _ e => (by cases e), fun _ _ _ _ _ _ _ _ _ e => (by cases e)⟩
  | n + 1 =>
    have ih := fix_sim ok hT hdr n
    ⟨fix_next T (n + 1), fun _ _ _ _ _ e => call_sim ok hT ih (hdr _ ih) e, fun _ _ _ _ _ e => yield_sim ok ih (hdr _ ih) e, fun _ _ _ _ _ _ _ _ hx e => loop_sim ok ih (hdr _ ih) hx e⟩

/-- What a call of the program comes to, where the abstract one comes to something. -/
theorem calls_of_run (ok : C.OK) {T : PT AFunc} (hT : TblOK C T) (hdr : ∀ r, RecOK C r → DrawnOK C r) {n : Nat} {f : Pos} {args : List AV} (hev : (fix T n).call f args h = .ok v h') {args' : List Value} (hr : HR C ρ h F w) (hv : VRs ρ args args') (hf : Fr ρ h.next h'.next) :
    Calls C.P f.idx args'.toArray w fun e w' => ∃ ρ' u, e = .returned u ∧ Out ρ ρ' h.next h'.next ∧ VR ρ' v u ∧ HR C ρ' h' F w' ∧ Same w w' := by
  intro cs
  obtain ⟨_, _, sim⟩ := (fix_sim ok hT hdr n).call _ _ _ _ _ hev
  obtain ⟨ρ', u, w', fr, k1, k2, k3, k4, k5, k6, k7, k8, k9, fn, k10, k11⟩ := sim ρ F w args' .normal cs hr hv hf (.inl rfl)
  exact ⟨.returned u, w', fr, ⟨ρ', u, rfl, k1, k2, k3, k4⟩, k5, k9, k6, k7, k8, fn, by rw [k9]; exact k10, k11⟩

end
end Go.Am

namespace Go.Am
section
variable {C : Cx} {ρ : Map} {h h' : Heap} {F : Nat → Option FObj} {w : World} {env env' : Env} {a : Act} {b : Frame} {r : Rec} {o : Oper} {v : AV} {nt : Nat}

theorem ObjR.at {l : Loc} {ob : AObj} (h : ObjR C ρ w l ob) : ∃ x, w.heap[l.block]? = some x := by
  cases ob <;> simp only [ObjR] at h
  · obtain ⟨_, _, ⟨_, h, _⟩, _⟩ := h; exact ⟨_, h⟩
  · obtain ⟨_, _, h, _⟩ := h; exact ⟨_, h⟩
  · obtain ⟨_, _, _, h, _⟩ := h; exact ⟨_, h⟩
  · obtain ⟨_, _, _, h, _⟩ := h; exact ⟨_, h⟩
  · exact ⟨_, h⟩

open Classical in
/-- All of memory but what a part of the abstract one takes. -/
noncomputable def restOf (ρ : Map) (hx : Heap) (w : World) (F : Nat → Option FObj) : Nat → Option FObj := fun c =>
  if ∃ b o l, PT.get b hx.t = some o ∧ ρ b = some l ∧ l.block = c then F c else (w.heap[c]?).map .ex

/-- A part of the abstract memory by itself. -/
theorem HR.part (hr : HR C ρ h F w) {hx : Heap} (hsub : ∀ b o, PT.get b hx.t = some o → PT.get b h.t = some o) (hbelow : ∀ b o, PT.get b hx.t = some o → b.nat < hx.next.nat) : HR C ρ hx (restOf ρ hx w F) w := by
  refine ⟨fun b o e => hr.live b o (hsub _ _ e), fun b b' o o' l l' e e' => hr.inj b b' o o' l l' (hsub _ _ e) (hsub _ _ e'), ?_, ?_, hbelow⟩
  · intro c o e
    unfold restOf at e
    split at e
    · exact hr.frame c o e
    · cases h1 : w.heap[c]? with
      | none => rw [h1] at e; cases e
      | some ob => rw [h1] at e; cases e; exact h1
  · intro c o b ob l e eb el
    unfold restOf at e
    split at e
    · exact hr.apart c o b ob l e (hsub _ _ eb) el
    · rename_i hno
      exact .of_ne (fun hc => hno ⟨b, ob, l, eb, el, hc⟩) _

/-- The rest put back. -/
theorem HR.back {ρ' : Map} {w' : World} (hr : HR C ρ h F w) {hx hx' : Heap} (hsub : ∀ b o, PT.get b hx.t = some o → PT.get b h.t = some o) (hext : Ext ρ ρ') (hr' : HR C ρ' hx' (restOf ρ hx w F) w') {h' : Heap}
    (hall : ∀ b o, PT.get b h'.t = some o → PT.get b hx'.t = some o ∨ (PT.get b h.t = some o ∧ PT.get b hx.t = none)) (hbelow : ∀ b o, PT.get b h'.t = some o → b.nat < h'.next.nat) : HR C ρ' h' F w' := by
  have hrest : ∀ b o l, PT.get b h.t = some o → PT.get b hx.t = none → ρ b = some l → restOf ρ hx w F l.block = (w.heap[l.block]?).map .ex := by
    intro b o l e e2 el
    unfold restOf
    rw [if_neg]
    rintro ⟨b2, o2, l2, e3, e4, e5⟩
    have := hr.inj b2 b o2 o l2 l (hsub _ _ e3) e e4 el e5
    subst this
    rw [e2] at e3
    cases e3
  have hold : ∀ b o, PT.get b h.t = some o → PT.get b hx.t = none → ∃ l ob, ρ b = some l ∧ ρ' b = some l ∧ ObjR C ρ' w' l o ∧ restOf ρ hx w F l.block = some (.ex ob) := by
    intro b o e e2
    obtain ⟨l, el, eo⟩ := hr.live b o e
    obtain ⟨ob, hob⟩ := eo.at
    have h1 := hrest b o l e e2 el
    rw [hob] at h1
    have h1 : restOf ρ hx w F l.block = some (.ex ob) := h1
    exact ⟨l, ob, el, hext _ _ el, eo.mono hext (by rw [show w'.heap[l.block]? = some ob from hr'.frame _ _ h1, hob]), h1⟩
  refine ⟨?_, ?_, ?_, ?_, hbelow⟩
  · intro b o e
    rcases hall b o e with h1 | ⟨h1, h2⟩
    · exact hr'.live b o h1
    · obtain ⟨l, ob, _, h3, h4, _⟩ := hold b o h1 h2
      exact ⟨l, h3, h4⟩
  · intro b b' o o' l l' e e' el el' hbl
    rcases hall b o e with h1 | ⟨h1, h2⟩ <;> rcases hall b' o' e' with g1 | ⟨g1, g2⟩
    · exact hr'.inj b b' o o' l l' h1 g1 el el' hbl
    · obtain ⟨k, ob, k1, k2, k3, k4⟩ := hold b' o' g1 g2
      rw [k2] at el'
      cases el'
      exact absurd hbl (hr'.apart _ _ b o l k4 h1 el)
    · obtain ⟨k, ob, k1, k2, k3, k4⟩ := hold b o h1 h2
      rw [k2] at el
      cases el
      exact absurd hbl.symm (hr'.apart _ _ b' o' l' k4 g1 el')
    · obtain ⟨k, ob, k1, k2, k3, k4⟩ := hold b o h1 h2
      obtain ⟨k', ob', k1', k2', k3', k4'⟩ := hold b' o' g1 g2
      rw [k2] at el; cases el
      rw [k2'] at el'; cases el'
      exact hr.inj b b' o o' l l' h1 g1 k1 k1' hbl
  · intro c o e
    by_cases hlive : ∃ b o l, PT.get b hx.t = some o ∧ ρ b = some l ∧ l.block = c
    · refine hr'.frame c o ?_
      unfold restOf
      rw [if_pos hlive]
      exact e
    · have h0 := hr.frame c o e
      have hlt := h0.lt
      have h1 : restOf ρ hx w F c = some (.ex w.heap[c]) := by
        unfold restOf
        rw [if_neg hlive, Array.getElem?_eq_getElem hlt]
        rfl
      have h2 : w'.heap[c]? = some w.heap[c] := hr'.frame c _ h1
      exact h0.congr (h2.trans (Array.getElem?_eq_getElem hlt).symm)
  · intro c o b ob l e eb el
    rcases hall b ob eb with h1 | ⟨h1, h2⟩
    · by_cases hlive : ∃ b o l, PT.get b hx.t = some o ∧ ρ b = some l ∧ l.block = c
      · refine hr'.apart c o b ob l ?_ h1 el
        unfold restOf
        rw [if_pos hlive]
        exact e
      · have hlt := (hr.frame c o e).lt
        have h3 : restOf ρ hx w F c = some (.ex w.heap[c]) := by
          unfold restOf
          rw [if_neg hlive, Array.getElem?_eq_getElem hlt]
          rfl
        have h4 : l.block ≠ c := hr'.apart c _ b ob l h3 h1 el
        exact .of_ne h4 _
    · obtain ⟨k, ob', k1, k2, k3, k4⟩ := hold b ob h1 h2
      rw [k2] at el; cases el
      exact hr.apart c o b ob l e h1 k1

end
end Go.Am

namespace Go.Am
section
variable {C : Cx} {ρ : Map} {h h' : Heap} {env env' : Env} {r : Rec} {v : AV}

/-- Two temporaries' rows agree on some. -/
def Agree (l : List Pos) (e e' : PT AV) : Prop := ∀ t ∈ l, PT.get t e = PT.get t e'

theorem val_congr {e e' : PT AV} {x : AArg} (h : Agree x.reads e e') : val e x = val e' x := by
  cases x with
  | t p => simp only [val]; rw [h p (by simp [AArg.reads])]
  | c v => rfl

theorem Agree.left {l m : List Pos} {e e' : PT AV} (h : Agree (l ++ m) e e') : Agree l e e' := fun t ht => h t (List.mem_append_left _ ht)
theorem Agree.right {l m : List Pos} {e e' : PT AV} (h : Agree (l ++ m) e e') : Agree m e e' := fun t ht => h t (List.mem_append_right _ ht)

theorem vals_congr {e e' : PT AV} : ∀ {l : List AArg}, Agree (readsL l) e e' → vals e l = vals e' l
  | [], _ => rfl
  | x :: l, h => by simp only [vals]; rw [val_congr (Agree.left h), vals_congr (Agree.right h)]

theorem optVal_congr {e e' : PT AV} {x : Option AArg} (h : Agree (readsO x) e e') : optVal e x = optVal e' x := by
  cases x with
  | none => rfl
  | some x => simp only [optVal]; rw [val_congr h]

theorem fillA_congr {e e' : PT AV} : ∀ {l : List (Nat × Nat × AArg)}, Agree (readsP l) e e' → ∀ cs, fillA e l cs = fillA e' l cs
  | [], _, cs => rfl
  | (off, size, x) :: l, h, cs => by
    simp only [fillA]
    rw [val_congr (Agree.left h)]
    have ih := fillA_congr (l := l) (Agree.right h)
    simp only [ih]

/-- What an operation does rests on what it reads. -/
theorem evalOp_congr (hround : env.round = env'.round) : ∀ {op : AOp}, Agree op.reads env.tmps env'.tmps → evalOp r env h op = evalOp r env' h op
  | .move x, hr => by
    have e0 := val_congr (x := x) hr
    simp only [evalOp, e0]
  | .pick c a b, hr => by
    have e0 := val_congr (x := c) (Agree.left hr)
    have e1 := val_congr (x := a) (Agree.left (Agree.right hr))
    have e2 := val_congr (x := b) (Agree.right (Agree.right hr))
    simp only [evalOp, e0, e1, e2]
  | .alloc _, hr => by
    simp only [evalOp]
  | .box x, hr => by
    have e0 := val_congr (x := x) hr
    simp only [evalOp, e0]
  | .build _ ps, hr => by
    have e0 := fillA_congr (l := ps) hr
    simp only [evalOp, e0]
  | .buildSlice _ _ ps, hr => by
    have e0 := fillA_congr (l := ps) hr
    simp only [evalOp, e0]
  | .insert _ m k v, hr => by
    have e0 := val_congr (x := m) (Agree.left hr)
    have e1 := val_congr (x := k) (Agree.left (Agree.right hr))
    have e2 := val_congr (x := v) (Agree.right (Agree.right hr))
    simp only [evalOp, e0, e1, e2]
  | .load _ a, hr => by
    have e0 := val_congr (x := a) hr
    simp only [evalOp, e0]
  | .store _ a v, hr => by
    have e0 := val_congr (x := a) (Agree.left hr)
    have e1 := val_congr (x := v) (Agree.right hr)
    simp only [evalOp, e0, e1]
  | .nilCheck x, hr => by
    have e0 := val_congr (x := x) hr
    simp only [evalOp, e0]
  | .bin _ x y, hr => by
    have e0 := val_congr (x := x) (Agree.left hr)
    have e1 := val_congr (x := y) (Agree.right hr)
    simp only [evalOp, e0, e1]
  | .not x, hr => by
    have e0 := val_congr (x := x) hr
    simp only [evalOp, e0]
  | .neg x, hr => by
    have e0 := val_congr (x := x) hr
    simp only [evalOp, e0]
  | .conv _ x, hr => by
    have e0 := val_congr (x := x) hr
    simp only [evalOp, e0]
  | .toStr x, hr => by
    have e0 := val_congr (x := x) hr
    simp only [evalOp, e0]
  | .mkfn _ a b, hr => by
    have e0 := vals_congr (l := a) (Agree.left hr)
    have e1 := vals_congr (l := b) (Agree.right hr)
    simp only [evalOp, e0, e1]
  | .mkiface _ x, hr => by
    have e0 := val_congr (x := x) hr
    simp only [evalOp, e0]
  | .mkmap _, hr => by
    simp only [evalOp]
  | .mkslice _ l c, hr => by
    have e0 := val_congr (x := l) (Agree.left hr)
    have e1 := val_congr (x := c) (Agree.right hr)
    simp only [evalOp, e0, e1]
  | .sliceStr x lo hi, hr => by
    have e0 := val_congr (x := x) (Agree.left hr)
    have e1 := optVal_congr (x := lo) (Agree.left (Agree.right hr))
    have e2 := optVal_congr (x := hi) (Agree.right (Agree.right hr))
    simp only [evalOp, e0, e1, e2]
  | .sliceSl _ x lo hi mx, hr => by
    have e0 := val_congr (x := x) (Agree.left hr)
    have e1 := optVal_congr (x := lo) (Agree.left (Agree.right hr))
    have e2 := optVal_congr (x := hi) (Agree.left (Agree.right (Agree.right hr)))
    have e3 := optVal_congr (x := mx) (Agree.right (Agree.right (Agree.right hr)))
    simp only [evalOp, e0, e1, e2, e3]
  | .sliceArr _ _ x lo hi mx, hr => by
    have e0 := val_congr (x := x) (Agree.left hr)
    have e1 := optVal_congr (x := lo) (Agree.left (Agree.right hr))
    have e2 := optVal_congr (x := hi) (Agree.left (Agree.right (Agree.right hr)))
    have e3 := optVal_congr (x := mx) (Agree.right (Agree.right (Agree.right hr)))
    simp only [evalOp, e0, e1, e2, e3]
  | .fieldAddr _ x, hr => by
    have e0 := val_congr (x := x) hr
    simp only [evalOp, e0]
  | .field _ _ x, hr => by
    have e0 := val_congr (x := x) hr
    simp only [evalOp, e0]
  | .indexArr _ _ x i, hr => by
    have e0 := val_congr (x := x) (Agree.left hr)
    have e1 := val_congr (x := i) (Agree.right hr)
    simp only [evalOp, e0, e1]
  | .indexSl _ x i, hr => by
    have e0 := val_congr (x := x) (Agree.left hr)
    have e1 := val_congr (x := i) (Agree.right hr)
    simp only [evalOp, e0, e1]
  | .index _ _ _ x i, hr => by
    have e0 := val_congr (x := x) (Agree.left hr)
    have e1 := val_congr (x := i) (Agree.right hr)
    simp only [evalOp, e0, e1]
  | .indexStr x i, hr => by
    have e0 := val_congr (x := x) (Agree.left hr)
    have e1 := val_congr (x := i) (Agree.right hr)
    simp only [evalOp, e0, e1]
  | .lookup _ _ _ m k, hr => by
    have e0 := val_congr (x := m) (Agree.left hr)
    have e1 := val_congr (x := k) (Agree.right hr)
    simp only [evalOp, e0, e1]
  | .extract _ x, hr => by
    have e0 := val_congr (x := x) hr
    simp only [evalOp, e0]
  | .call _ xs, hr => by
    have e0 := vals_congr (l := xs) hr
    simp only [evalOp, e0]
  | .callv x xs, hr => by
    have e0 := val_congr (x := x) (Agree.left hr)
    have e1 := vals_congr (l := xs) (Agree.right hr)
    simp only [evalOp, e0, e1]
  | .indexByte x c, hr => by
    have e0 := val_congr (x := x) (Agree.left hr)
    have e1 := val_congr (x := c) (Agree.right hr)
    simp only [evalOp, e0, e1]
  | .append _ x y, hr => by
    have e0 := val_congr (x := x) (Agree.left hr)
    have e1 := val_congr (x := y) (Agree.right hr)
    simp only [evalOp, e0, e1]
  | .lenStr x, hr => by
    have e0 := val_congr (x := x) hr
    simp only [evalOp, e0]
  | .lenSl x, hr => by
    have e0 := val_congr (x := x) hr
    simp only [evalOp, e0]
  | .lenMap x, hr => by
    have e0 := val_congr (x := x) hr
    simp only [evalOp, e0]
  | .lenC _ x, hr => by
    have e0 := val_congr (x := x) hr
    simp only [evalOp, e0]
  | .delete _ m k, hr => by
    have e0 := val_congr (x := m) (Agree.left hr)
    have e1 := val_congr (x := k) (Agree.right hr)
    simp only [evalOp, e0, e1]
  | .recover, hr => by
    simp only [evalOp, hround]
  | .copy _ x y, hr => by
    have e0 := val_congr (x := x) (Agree.left hr)
    have e1 := val_congr (x := y) (Agree.right hr)
    simp only [evalOp, e0, e1]
  | .min x y, hr => by
    have e0 := val_congr (x := x) (Agree.left hr)
    have e1 := val_congr (x := y) (Agree.right hr)
    simp only [evalOp, e0, e1]
  | .max x y, hr => by
    have e0 := val_congr (x := x) (Agree.left hr)
    have e1 := val_congr (x := y) (Agree.right hr)
    simp only [evalOp, e0, e1]
  | .eqA _ x y, hr => by
    have e0 := val_congr (x := x) (Agree.left hr)
    have e1 := val_congr (x := y) (Agree.right hr)
    simp only [evalOp, e0, e1]
  | .defer x xs, hr => by
    have e0 := val_congr (x := x) (Agree.left hr)
    have e1 := vals_congr (l := xs) (Agree.right hr)
    simp only [evalOp, e0, e1]
  | .bad, hr => by
    simp only [evalOp]

theorem bin_pure {b : ABin} {x y : AV} (hev : bin b x y h = .ok v h') : h' = h ∧ ∀ h2, bin b x y h2 = .ok v h2 := by
  unfold bin at hev ⊢
  repeat' split at hev
  all_goals first
    | (cases hev; done)
    | (cases hev; exact ⟨rfl, fun _ => by simp only [*]⟩)
    | (unfold boolV at hev ⊢; split at hev <;> first | (cases hev; done) | (cases hev; exact ⟨rfl, fun _ => by simp only [*]⟩))

end
end Go.Am

