/- An abstract machine for Go code and its soundness over the model; no condition of its own. Used by the proof that the law TopScheduled returns true at every input. -/
import Derived.Test.YtofefignkpmlbaaGreatAm4
namespace Go.Am
section
variable {C : Cx} {ρ : Map} {h h' : Heap} {F : Nat → Option FObj} {w : World} {env : Env} {a : Act} {r : Rec} {o : Oper} {ao : AOp} {v : AV}
variable (ok : C.OK) (hr : HR C ρ h F w) (he : ER ρ env.tmps a.tmps) (hf : Fr ρ h.next h'.next) (hev : evalOp r env h ao = .ok v h')

theorem run_builtin {P : Program} {c : Call} {b : Builtin} (ho : o.op = .call c) (hc : c.callee = .builtin b) (w : World) :
    (execOp a.eval o).run P w = (builtin b c.argTypes o.type (c.args.map fun | .const _ => true | _ => false) (c.args.map a.eval)).run P w := by
  simp only [execOp, ho, resolve, hc, Sem.run_bind, Sem.run_pure, Result.andThen_ok, invoke]
  rfl

theorem args_one {c : Call} {x : Operand} (h : c.args.toList = [x]) (f : Operand → Value) : c.args.map f = #[f x] := by
  apply Array.ext'; simp [h]

theorem args_two {c : Call} {x y : Operand} (h : c.args.toList = [x, y]) (f : Operand → Value) : c.args.map f = #[f x, f y] := by
  apply Array.ext'; simp [h]

include hr in
theorem good_value {u : Value} {res : Result Next} {s : Sem Value} (hv : VR ρ v u) (hs : s.run C.P w = .ok u w) (e : res = (do pure (.value (← s)) : Sem Next).run C.P w) : Good C ρ h F w v h res := by
  refine Good.pure hr hv ?_
  rw [e]
  simp [hs]

include ok hr he hev in
theorem good_len {c : Call} {x : Operand} (ho : o.op = .call c) (hc : c.callee = .builtin .len) (ha : c.args.toList = [x]) (ht : trCall C.ty C.ib c = some ao) : Good C ρ h F w v h' ((execOp a.eval o).run C.P w) := by
  have hrun := run_builtin (a := a) (P := C.P) ho hc w
  rw [args_one ha] at hrun
  simp [trCall, hc, ha, Option.bind_eq_some_iff] at ht
  obtain ⟨y, hy, t, htt, d, hd, ht⟩ := ht
  have hu := run_under ok hd w
  have h1 := val_good hy he
  have hargs : c.argTypes[0]? = some t := htt
  cases d <;> simp [Option.bind_eq_some_iff] at ht
  case string =>
    subst ht
    simp only [evalOp] at hev
    split at hev
    · rename_i s e
      cases hev
      rw [e] at h1
      simp only [VR] at h1
      obtain ⟨bs, hx, hs⟩ := h1
      refine good_value hr VR.int ?_ hrun
      have : bs.size = s.length := by rw [hs, List.length_map, Array.length_toList]; rfl
      simp [Builtin.len_, hargs, hu, hx, goInt, this]
    · rename_i n e
      cases hev
      rw [e] at h1
      simp only [VR] at h1
      obtain ⟨bs, hx, hs⟩ := h1
      refine good_value hr VR.int ?_ hrun
      have : bs.size = n := by
        have h2 : bs.data.toList.length = n := by rw [hs]; simp
        rw [Array.length_toList] at h2
        exact h2
      simp [Builtin.len_, hargs, hu, hx, goInt, this]
    · cases hev
  case slice e =>
    subst ht
    simp only [evalOp] at hev
    split at hev
    · rename_i n e
      cases hev
      refine good_value hr VR.int (u := goInt n) ?_ hrun
      have : ∃ p c, a.eval x = .slice p n c := by
        unfold lenOfSlice at e
        split at e
        · rename_i e2; rw [e2] at h1; cases e; simp only [VR] at h1; exact ⟨_, _, h1⟩
        · rename_i b off len cap e2
          rw [e2] at h1
          cases e
          cases cap <;> simp only [VR] at h1
          · obtain ⟨_, _, p, c, h2, _⟩ := h1; exact ⟨_, _, h2⟩
          · obtain ⟨_, _, p, h2, _⟩ := h1; exact ⟨_, _, h2⟩
        · cases e
      obtain ⟨p, c', hx⟩ := this
      simp [Builtin.len_, hargs, hu, hx, goInt]
    · cases hev
  case map k e =>
    subst ht
    simp only [evalOp] at hev
    split at hev
    · rename_i e
      cases hev
      rw [e] at h1
      simp only [VR] at h1
      refine good_value hr VR.int ?_ hrun
      simp [Builtin.len_, hargs, hu, h1, goInt]
    · rename_i b e
      rw [e] at h1
      simp only [VR] at h1
      obtain ⟨l, hl, hx⟩ := h1
      split at hev
      · rename_i q es hb
        cases hev
        obtain ⟨es', clock, L, h3, h4, h5, h6⟩ := hr.mapAt hb hl
        have hget := run_getObj_map (P := C.P) h3
        have hlen : es'.size = es.length := by rw [← h5.length, h4.length_eq, Array.length_toList]
        refine good_value hr VR.int ?_ hrun
        simp [Builtin.len_, hargs, hu, hx, hget, goInt, hlen]
      · cases hev
    · cases hev
  case array n e =>
    subst ht
    simp only [evalOp, R.ok.injEq] at hev
    obtain ⟨rfl, rfl⟩ := hev
    refine good_value hr VR.int (u := goInt n) ?_ hrun
    cases a.eval x <;> simp [Builtin.len_, hargs, hu]
  case pointer p =>
    obtain ⟨d2, hd2, ht⟩ := ht
    have hu2 := run_under ok hd2 w
    cases d2 <;> simp at ht
    subst ht
    rename_i n e
    simp only [evalOp, R.ok.injEq] at hev
    obtain ⟨rfl, rfl⟩ := hev
    refine good_value hr VR.int (u := goInt n) ?_ hrun
    cases a.eval x <;> simp [Builtin.len_, hargs, hu, hu2]

include hr he hev in
theorem good_min {c : Call} {x y : Operand} (ho : o.op = .call c) (hc : c.callee = .builtin .min) (ha : c.args.toList = [x, y]) (ht : trCall C.ty C.ib c = some ao) : Good C ρ h F w v h' ((execOp a.eval o).run C.P w) := by
  have hrun := run_builtin (a := a) (P := C.P) ho hc w
  rw [args_two ha] at hrun
  simp [trCall, hc, ha, Option.bind_eq_some_iff] at ht
  obtain ⟨x', hx, y', hy, rfl⟩ := ht
  have h1 := val_good hx he
  have h2 := val_good hy he
  simp only [evalOp] at hev
  split at hev
  · rename_i k m j n e1 e2
    cases hev
    rw [e1] at h1
    rw [e2] at h2
    simp only [VR] at h1 h2
    refine good_value hr (u := .int k (if n < m then n else m)) ?_ ?_ hrun
    · rw [ltI_eq]
      by_cases hlt : n < m <;> simp [hlt, VR]
    · simp [Builtin.min_, h1, h2, Builtin.min2]
  · cases hev

include hr he hev in
theorem good_max {c : Call} {x y : Operand} (ho : o.op = .call c) (hc : c.callee = .builtin .max) (ha : c.args.toList = [x, y]) (ht : trCall C.ty C.ib c = some ao) : Good C ρ h F w v h' ((execOp a.eval o).run C.P w) := by
  have hrun := run_builtin (a := a) (P := C.P) ho hc w
  rw [args_two ha] at hrun
  simp [trCall, hc, ha, Option.bind_eq_some_iff] at ht
  obtain ⟨x', hx, y', hy, rfl⟩ := ht
  have h1 := val_good hx he
  have h2 := val_good hy he
  simp only [evalOp] at hev
  split at hev
  · rename_i k m j n e1 e2
    cases hev
    rw [e1] at h1
    rw [e2] at h2
    simp only [VR] at h1 h2
    refine good_value hr (u := .int k (if m < n then n else m)) ?_ ?_ hrun
    · rw [ltI_eq]
      by_cases hlt : m < n <;> simp [hlt, VR]
    · simp [Builtin.max_, h1, h2, Builtin.max2]
  · cases hev

include ok hr he hev in
theorem good_delete {c : Call} {x y : Operand} (ho : o.op = .call c) (hc : c.callee = .builtin .delete) (ha : c.args.toList = [x, y]) (ht : trCall C.ty C.ib c = some ao) : Good C ρ h F w v h' ((execOp a.eval o).run C.P w) := by
  have hrun := run_builtin (a := a) (P := C.P) ho hc w
  rw [args_two ha] at hrun
  simp [trCall, hc, ha, Option.bind_eq_some_iff] at ht
  obtain ⟨x', hx, y', hy, t, htt, d, hd, ht⟩ := ht
  have hu := run_under ok hd w
  cases d <;> simp [Option.bind_eq_some_iff] at ht
  obtain ⟨q, hq, rfl⟩ := ht
  obtain ⟨hqk, dk, hdk, hkd⟩ := keyK_inv hq
  have hrk := run_under ok hdk w
  have h0 := val_good hx he
  have h1 := val_good hy he
  have hargs : c.argTypes[0]? = some t := htt
  simp only [evalOp] at hev
  split at hev
  · rename_i b e1
    rw [e1] at h0
    simp only [VR] at h0
    obtain ⟨l, hl, hx'⟩ := h0
    split at hev
    · rename_i q' es hb
      split at hev
      · rename_i esn hq' hset
        have := eqEqK_eq hq'
        subst this
        cases hev
        obtain ⟨es', clock, L, h3, h4, h5, h6⟩ := hr.mapAt hb hl
        have hget := run_getObj_map (P := C.P) h3
        have hck := run_checkKey (P := C.P) hkd hrk es'.isEmpty (a.eval y)
        obtain ⟨res, hfind⟩ := findKey_of_delKey hset
        have fin : ∀ (es2 : Array MapEntry), HR C ρ ⟨PT.set b (.map q esn) h.t, h.next⟩ F { w with heap := w.heap.setIfInBounds l.block (.map es2 clock) } → Same w { w with heap := w.heap.setIfInBounds l.block (.map es2 clock) } →
            (Builtin.delete_ c.argTypes o.type #[a.eval x, a.eval y]).run C.P w = .ok (.tuple #[]) { w with heap := w.heap.setIfInBounds l.block (.map es2 clock) } →
            Good C ρ h F w (.tup []) ⟨PT.set b (.map q esn) h.t, h.next⟩ ((execOp a.eval o).run C.P w) := by
          intro es2 g2 g3 g4
          refine ⟨ρ, .tuple #[], _, Out.refl _ _ _, Nat.le_refl _, by simp only [VR]; exact ⟨[], rfl, VRs.nil⟩, g2, g3, .inl ?_⟩
          rw [hrun]
          simp only [builtin, Sem.run_bind, g4, Result.andThen_ok, Sem.run_pure]
        rcases find_real hqk hkd h1 h4 h5 h6 hfind with ⟨_, h8, h9⟩ | ⟨v1, es1, k', es2, L1, L2, l1, e1, l2, _, h8, h10, h11, h12, h13, h14, h15, h16, h17, h18, h9⟩
        · have hfk := run_findKey (P := C.P) hrk h9
          have hesn := delKey_none h8 hset
          subst hesn
          obtain ⟨g1, g2, g3⟩ := hr.setMap hb hl (es' := es') (clock := clock) (L := L) h3 h4 h5 h6
          refine fin es' g2 g3 ?_
          have e0 : (#[Value.map (some l.block), a.eval y] : Array Value)[0]? = some (.map (some l.block)) := rfl
          have e1 : (#[Value.map (some l.block), a.eval y] : Array Value)[1]? = some (a.eval y) := rfl
          rw [hx']
          simp only [Builtin.delete_, hargs, e0, e1, Sem.run_bind, hu, Result.andThen_ok, hget, hck, hfk, g1, Sem.run_pure]
        · have hfk := run_findKey (P := C.P) hrk h9
          subst h8
          have hesn := delKey_old h10 (fun z hz => h11 z (by simp [hz])) hset
          subst hesn
          subst h12
          have hmod : (es'.eraseIdxIfInBounds l1.length).toList = l1 ++ l2 := by
            rw [Array.toList_eraseIdxIfInBounds, h17]
            rw [List.eraseIdx_append_of_length_le (Nat.le_refl _)]
            simp
          obtain ⟨g1, g2, g3⟩ := hr.setMap hb hl (es' := es'.eraseIdxIfInBounds l1.length) (clock := clock) (L := L1 ++ L2) h3
            (by rw [hmod]; exact h18) (h13.join h14) h6.del
          refine fin _ g2 g3 ?_
          have e0 : (#[Value.map (some l.block), a.eval y] : Array Value)[0]? = some (.map (some l.block)) := rfl
          have e1 : (#[Value.map (some l.block), a.eval y] : Array Value)[1]? = some (a.eval y) := rfl
          rw [hx']
          simp only [Builtin.delete_, hargs, e0, e1, Sem.run_bind, hu, Result.andThen_ok, hget, hck, hfk, g1, Sem.run_pure]
      · cases hev
    · cases hev
  · cases hev

end
end Go.Am

namespace Go.Am
section
variable {C : Cx} {ρ : Map} {h h' : Heap} {F : Nat → Option FObj} {w : World} {env : Env} {a : Act} {r : Rec} {o : Oper} {ao : AOp} {v : AV}
variable (ok : C.OK) (hr : HR C ρ h F w) (he : ER ρ env.tmps a.tmps) (hf : Fr ρ h.next h'.next) (ht : trOp C.ty C.ib o = some ao) (hev : evalOp r env h ao = .ok v h')

theorem optArg_good {x : Option Operand} {y : Option AArg} (hx : trOptArg x = some y) (he : ER ρ env.tmps a.tmps) :
    (x = none ∧ y = none ∧ optVal env.tmps y = none) ∨ ∃ xo yo, x = some xo ∧ y = some yo ∧ optVal env.tmps y = some (val env.tmps yo) ∧ VR ρ (val env.tmps yo) (a.eval xo) := by
  cases x with
  | none => simp only [trOptArg, Option.some.injEq] at hx; subst hx; exact .inl ⟨rfl, rfl, rfl⟩
  | some xo =>
    simp only [trOptArg] at hx
    obtain ⟨yo, h1, rfl⟩ := Option.map_eq_some_iff.1 hx
    exact .inr ⟨xo, yo, rfl, rfl, rfl, val_good h1 he⟩

theorem bound_inv {x : AV} {dflt most n : Nat} (h : bound (some x) dflt most = some n) : ∃ k, x = .int k (.ofNat n) ∧ n ≤ most := by
  unfold bound at h
  split at h
  · rename_i e; cases e
  · rename_i k m e
    cases e
    split at h
    · rename_i hle
      cases h
      exact ⟨k, rfl, Nat.le_of_ble_eq_true hle⟩
    · cases h
  · cases h

theorem run_sliceBound {P : Program} {k : IntKind} {n most : Nat} (h : n ≤ most) (code : BoundsCode) (w : World) : (Instr.sliceBound (.int k (.ofNat n)) most code).run P w = .ok n w := by
  simp [Instr.sliceBound, asIntOf, h]

/-- A bound that is given, and fits. -/
def Bd (a : Act) (x : Option Operand) (v most : Nat) : Prop := ∃ xo k, x = some xo ∧ a.eval xo = .int k (.ofNat v) ∧ v ≤ most

theorem bound_Bd {x : Option Operand} {y : Option AArg} {dflt most n : Nat} (hx : trOptArg x = some y) (he : ER ρ env.tmps a.tmps) (h : bound (optVal env.tmps y) dflt most = some n) :
    (x = none ∧ y = none ∧ n = dflt) ∨ (Bd a x n most ∧ ∃ z, y = some z) := by
  rcases optArg_good hx he with ⟨rfl, rfl, h1⟩ | ⟨xo, yo, rfl, rfl, h1, h2⟩
  · rw [h1] at h
    simp only [bound, Option.some.injEq] at h
    exact .inl ⟨rfl, rfl, h.symm⟩
  · rw [h1] at h
    obtain ⟨k, h3, h4⟩ := bound_inv h
    rw [h3] at h2
    simp only [VR] at h2
    exact .inr ⟨⟨xo, k, rfl, h2, h4⟩, yo, rfl⟩

theorem Bd.more {x : Option Operand} {v m m' : Nat} (h : Bd a x v m) (hm : m ≤ m') : Bd a x v m' := by
  obtain ⟨xo, k, h1, h2, h3⟩ := h
  exact ⟨xo, k, h1, h2, by omega⟩

/-- The three bounds of a slice expression, where they fit. -/
theorem run_bounds {P : Program} {isSlice : Bool} {len cap : Nat} {lo hi mx : Option Operand} {l u m : Nat} (hM : (mx = none ∧ m = cap) ∨ Bd a mx m cap) (hH : (hi = none ∧ mx = none ∧ u = len) ∨ Bd a hi u m)
    (hL : (lo = none ∧ l = 0) ∨ Bd a lo l u) (w : World) : (Instr.sliceBounds isSlice len cap (lo.map a.eval) (hi.map a.eval) (mx.map a.eval)).run P w = .ok (l, u, m) w := by
  rcases hM with ⟨rfl, rfl⟩ | ⟨mo, k1, rfl, h1, h2⟩ <;> rcases hH with ⟨rfl, h3, rfl⟩ | ⟨ho, k2, rfl, h3, h4⟩ <;> rcases hL with ⟨rfl, rfl⟩ | ⟨lo', k3, rfl, h5, h6⟩
  all_goals first
    | (cases h3; done)
    | (unfold Instr.sliceBounds; simp only [Option.map_none, Option.map_some]; simp only [*, Sem.run_bind, Sem.run_pure, Result.andThen_ok, run_sliceBound]; done)

include ok hr he hev in
theorem good_slice {t : TypeId} {x : Operand} {lo hi mx : Option Operand} (ho : o.op = .slice t x lo hi mx) (ht : trOp C.ty C.ib o = some ao) : Good C ρ h F w v h' ((execOp a.eval o).run C.P w) := by
  simp only [trOp, ho] at ht
  split at ht
  · cases ht
  · rename_i hmh
    simp [Option.bind_eq_some_iff] at ht
    obtain ⟨d, hd, ht⟩ := ht
    have hu := run_under ok hd w
    have hexec : (execOp a.eval o).run C.P w = ((Instr.sliceAt t (a.eval x) (lo.map a.eval) (hi.map a.eval) (mx.map a.eval)).run C.P w).andThen fun u w' => .ok (.value u) w' := by
      simp [execOp, ho]
    have hH : ∀ {hi' : Option AArg} {mx' : Option AArg} {len m u : Nat}, trOptArg hi = some hi' → bound (optVal env.tmps hi') len m = some u → (hi = none ∧ mx = none ∧ u = len) ∨ Bd a hi u m := by
      intro hi' mx' len m u h1 h2
      rcases bound_Bd h1 he h2 with ⟨h3, _, h4⟩ | ⟨h3, _⟩
      · refine .inl ⟨h3, ?_, h4⟩
        cases mx with
        | none => rfl
        | some z => exact absurd ⟨rfl, by simp [h3]⟩ hmh
      · exact .inr h3
    have hL : ∀ {lo' : Option AArg} {m u : Nat}, trOptArg lo = some lo' → bound (optVal env.tmps lo') 0 m = some u → (lo = none ∧ u = 0) ∨ Bd a lo u m := by
      intro lo' m u h1 h2
      rcases bound_Bd h1 he h2 with ⟨h3, _, h4⟩ | ⟨h3, _⟩
      · exact .inl ⟨h3, h4⟩
      · exact .inr h3
    have hM : ∀ {mx' : Option AArg} {m u : Nat}, trOptArg mx = some mx' → bound (optVal env.tmps mx') m m = some u → (mx = none ∧ u = m) ∨ Bd a mx u m := by
      intro mx' m u h1 h2
      rcases bound_Bd h1 he h2 with ⟨h3, _, h4⟩ | ⟨h3, _⟩
      · exact .inl ⟨h3, h4⟩
      · exact .inr h3
    -- an array behind an address
    have harr : ∀ (n size : Nat) (x' : AArg) (lo' hi' mx' : Option AArg), trArg x = some x' → trOptArg lo = some lo' → trOptArg hi = some hi' → trOptArg mx = some mx' →
        evalOp r env h (.sliceArr n size x' lo' hi' mx') = .ok v h' → (∀ ad l u m, a.eval x = .pointer (some ad) → (Instr.sliceBounds false n n (lo.map a.eval) (hi.map a.eval) (mx.map a.eval)).run C.P w = .ok (l, u, m) w →
          (Instr.sliceAt t (a.eval x) (lo.map a.eval) (hi.map a.eval) (mx.map a.eval)).run C.P w = .ok (.slice (some (if m = l then ad else ad.add (l * size))) (u - l) (m - l)) w) → Good C ρ h F w v h' ((execOp a.eval o).run C.P w) := by
      intro n size x' lo' hi' mx' hx hlo hhi hmx hev hgo
      have h1 := val_good hx he
      simp only [evalOp] at hev
      split at hev
      · rename_i b off e
        rw [e] at h1
        simp only [VR] at h1
        obtain ⟨l0, hl, hx'⟩ := h1
        split at hev
        · rename_i m hm
          split at hev
          · rename_i u hu2
            split at hev
            · rename_i l hl2
              cases hev
              have hb := run_bounds (P := C.P) (isSlice := false) (hM hmx hm) (hH (mx' := mx') hhi hu2) (hL hlo hl2) w
              have hlu : l ≤ u := by rcases hL hlo hl2 with ⟨_, h3⟩ | ⟨_, _, _, _, h3⟩ <;> omega
              have hum : u ≤ m := by
                rcases hM hmx hm with ⟨h5, h6⟩ | ⟨xo, _, h5, _, h6⟩
                · rcases hH (mx' := mx') hhi hu2 with ⟨_, _, h3⟩ | ⟨_, _, _, _, h3⟩ <;> omega
                · rcases hH (mx' := mx') hhi hu2 with ⟨_, h3, _⟩ | ⟨_, _, _, _, h3⟩
                  · rw [h3] at h5; cases h5
                  · exact h3
              refine Good.pure hr (u := .slice (some (if m = l then l0.at off else (l0.at off).add (l * size))) (u - l) (m - l)) ?_ (by rw [hexec, hgo _ _ _ _ hx' hb]; rfl)
              simp only [VR]
              refine ⟨l0, hl, _, rfl, by omega, ?_⟩
              intro hc
              rw [if_neg (by omega), Loc.at_add]
            · cases hev
          · cases hev
        · cases hev
      · cases hev
    cases d <;> simp [Option.bind_eq_some_iff] at ht
    case string =>
      obtain ⟨hmx, x', hx, lo', hlo, hi', hhi, rfl⟩ := ht
      have hmx : mx = none := by cases mx <;> simp_all
      subst hmx
      have h1 := val_good hx he
      simp only [evalOp] at hev
      split at hev
      · rename_i s e
        rw [e] at h1
        simp only [VR] at h1
        obtain ⟨bs, hx', hs⟩ := h1
        have hsz : bs.size = s.length := by rw [hs, List.length_map, Array.length_toList]; rfl
        split at hev
        · rename_i u hu2
          split at hev
          · rename_i l hl2
            cases hev
            have hb := run_bounds (P := C.P) (isSlice := false) (cap := s.length) (.inl ⟨rfl, rfl⟩) (hH (mx' := none) hhi hu2) (hL hlo hl2) w
            refine Good.pure hr (u := .string (bs.extract l u)) ?_ ?_
            · simp only [VR]
              refine ⟨_, rfl, ?_⟩
              rw [Lib.extract_data, hs]
              simp [List.drop_take, List.map_take, List.map_drop]
            · rw [hexec, hx']
              simp only [Option.map_none] at hb ⊢
              simp only [Instr.sliceAt, Instr.slice, Sem.run_bind, hu, Result.andThen_ok, hsz, hb, Option.isSome_none, Bool.false_eq_true, if_false, Sem.run_pure]
          · cases hev
        · cases hev
      · cases hev
    case slice e =>
      obtain ⟨i, hi', x', hx, lo', hlo, hi2, hhi, mx', hmx, rfl⟩ := ht
      have h1 := val_good hx he
      have hgo : ∀ p len c l u m, a.eval x = .slice p len c → (Instr.sliceBounds true len c (lo.map a.eval) (hi.map a.eval) (mx.map a.eval)).run C.P w = .ok (l, u, m) w →
          (execOp a.eval o).run C.P w = .ok (.value (.slice (if m = l then p else p.map (·.add (l * i.size))) (u - l) (m - l))) w := by
        intro p len c l u m e1 e2
        rw [hexec, e1]
        simp only [Instr.sliceAt, Instr.slice, Sem.run_bind, hu, Result.andThen_ok, e2, run_size ok hi' w, Sem.run_pure]
      simp only [evalOp] at hev
      split at hev
      · rename_i e1
        rw [e1] at h1
        simp only [VR] at h1
        split at hev
        · rename_i m u l hm hu2 hl2
          cases hev
          have hm0 : m = 0 := by rcases hM hmx hm with ⟨_, h3⟩ | ⟨_, _, _, _, h3⟩ <;> omega
          have hu0 : u = 0 := by rcases hH (mx' := mx') hhi hu2 with ⟨_, _, h3⟩ | ⟨_, _, _, _, h3⟩ <;> omega
          have hl0 : l = 0 := by rcases hL hlo hl2 with ⟨_, h3⟩ | ⟨_, _, _, _, h3⟩ <;> omega
          subst hm0; subst hu0; subst hl0
          have hb := run_bounds (P := C.P) (isSlice := true) (len := 0) (cap := 0) (hM hmx hm) (hH (mx' := mx') hhi hu2) (hL hlo hl2) w
          exact Good.pure hr (u := .slice none 0 0) (by simp only [VR]) (by rw [hgo _ _ _ _ _ _ h1 hb]; rfl)
        · cases hev
      · rename_i b off len cap e1
        rw [e1] at h1
        split at hev
        · rename_i c
          simp only [VR] at h1
          obtain ⟨l0, hl0, p, hx', hlc, hp⟩ := h1
          split at hev
          · rename_i m hm
            split at hev
            · rename_i u hu2
              split at hev
              · rename_i l hl2
                cases hev
                have hb := run_bounds (P := C.P) (isSlice := true) (hM hmx hm) (hH (mx' := mx') hhi hu2) (hL hlo hl2) w
                have hlu : l ≤ u := by rcases hL hlo hl2 with ⟨_, h3⟩ | ⟨_, _, _, _, h3⟩ <;> omega
                have hum : u ≤ m := by
                  rcases hM hmx hm with ⟨h5, h6⟩ | ⟨xo, _, h5, _, h6⟩
                  · rcases hH (mx' := mx') hhi hu2 with ⟨_, _, h3⟩ | ⟨_, _, _, _, h3⟩ <;> omega
                  · rcases hH (mx' := mx') hhi hu2 with ⟨_, h3, _⟩ | ⟨_, _, _, _, h3⟩
                    · rw [h3] at h5; cases h5
                    · exact h3
                have hmc : m ≤ c := by rcases hM hmx hm with ⟨h5, h6⟩ | ⟨xo, _, h5, _, h6⟩ <;> omega
                refine Good.pure hr ?_ (hgo _ _ _ _ _ _ hx' hb)
                simp only [VR]
                refine ⟨l0, hl0, (if m = l then p else p.add (l * i.size)), by split <;> rfl, by omega, ?_⟩
                intro hc
                rw [if_neg (by omega), hp (by omega), Loc.at_add]
              · cases hev
            · cases hev
          · cases hev
        · rename_i esz
          simp only [VR] at h1
          obtain ⟨l0, hl0, p, c, hx', hlc, hp⟩ := h1
          split at hev
          · rename_i m hm
            split at hev
            · rename_i u hu2
              split at hev
              · rename_i l hl2
                have hlu : l ≤ u := by rcases hL hlo hl2 with ⟨_, h3⟩ | ⟨_, _, _, _, h3⟩ <;> omega
                have hum : u ≤ m := by
                  rcases hM hmx hm with ⟨h5, h6⟩ | ⟨xo, _, h5, _, h6⟩
                  · rcases hH (mx' := mx') hhi hu2 with ⟨_, _, h3⟩ | ⟨_, _, _, _, h3⟩ <;> omega
                  · rcases hH (mx' := mx') hhi hu2 with ⟨_, h3, _⟩ | ⟨_, _, _, _, h3⟩
                    · rw [h3] at h5; cases h5
                    · exact h3
                split at hev
                · rename_i z
                  cases hev
                  rcases bound_Bd hmx he hm with ⟨_, h3, _⟩ | ⟨h3, _⟩
                  · cases h3
                  · have hml : m ≤ len := by obtain ⟨_, _, _, _, h4⟩ := h3; exact h4
                    have hb := run_bounds (P := C.P) (isSlice := true) (.inr (h3.more hlc)) (hH (mx' := some z) hhi hu2) (hL hlo hl2) w
                    refine Good.pure hr ?_ (hgo _ _ _ _ _ _ hx' hb)
                    simp only [VR]
                    refine ⟨l0, hl0, (if m = l then p else p.add (l * i.size)), by split <;> rfl, by omega, ?_⟩
                    intro hc
                    rw [if_neg (by omega), (hp (by omega)).1, Loc.at_add]
                · split at hev
                  rotate_left
                  · cases hev
                  rename_i hesz
                  have hesz := Nat.eq_of_beq_eq_true hesz
                  cases hev
                  rcases bound_Bd hmx he hm with ⟨h3, _, h4⟩ | ⟨_, _, h3⟩
                  · subst h3
                    subst h4
                    have hH' : (hi = none ∧ (none : Option Operand) = none ∧ u = m) ∨ Bd a hi u c := by
                      rcases hH (mx' := none) hhi hu2 with h5 | h5
                      · exact .inl h5
                      · exact .inr (h5.more hlc)
                    have hb := run_bounds (P := C.P) (isSlice := true) (len := m) (cap := c) (mx := none) (.inl ⟨rfl, rfl⟩) hH' (hL hlo hl2) w
                    refine Good.pure hr ?_ (hgo _ _ _ _ _ _ hx' hb)
                    simp only [VR]
                    refine ⟨l0, hl0, (if c = l then p else p.add (l * i.size)), c - l, by split <;> rfl, by omega, ?_⟩
                    intro hc
                    obtain ⟨h5, h6⟩ := hp (by omega)
                    refine ⟨by rw [if_neg (by omega), h5, Loc.at_add], ?_⟩
                    rw [hesz] at h6 ⊢
                    have h7 : c * i.size = l * i.size + (c - l) * i.size := by rw [← Nat.add_mul]; congr 1; omega
                    omega
                  · cases h3
              · cases hev
            · cases hev
          · cases hev
      · cases hev
    case array n e =>
      obtain ⟨i, hi', x', hx, lo', hlo, hi2, hhi, mx', hmx, rfl⟩ := ht
      refine harr n i.size x' lo' hi2 mx' hx hlo hhi hmx hev ?_
      intro ad l u m e1 e2
      rw [e1]
      simp only [Instr.sliceAt, Sem.run_bind, hu, Result.andThen_ok, Instr.sureAddr, Sem.run_pure, e2, run_size ok hi' w]
    case pointer p =>
      obtain ⟨d2, hd2, ht⟩ := ht
      have hu2 := run_under ok hd2 w
      cases d2 <;> simp [Option.bind_eq_some_iff] at ht
      rename_i n e
      obtain ⟨i, hi', x', hx, lo', hlo, hi2, hhi, mx', hmx, rfl⟩ := ht
      refine harr n i.size x' lo' hi2 mx' hx hlo hhi hmx hev ?_
      intro ad l u m e1 e2
      rw [e1]
      simp only [Instr.sliceAt, Instr.slice, Sem.run_bind, hu, Result.andThen_ok, asAddr, Sem.run_pure, hu2, e2, run_size ok hi' w]

end
end Go.Am

