/- An abstract machine for Go code and its soundness over the model; no condition of its own. Used by the proof that the law TopScheduled returns true at every input. -/
import Derived.Test.YtofefignkpmlbaaGreatAm2
import Derived.Lib.Strings
namespace Go.Am

/-- What comes of an operation is what the abstract one says. -/
def Good (C : Cx) (ρ : Map) (h : Heap) (F : Nat → Option FObj) (w : World) (v : AV) (h' : Heap) (res : Result Next) : Prop :=
  ∃ ρ' u w', Out ρ ρ' h.next h'.next ∧ h.next.nat ≤ h'.next.nat ∧ VR ρ' v u ∧ HR C ρ' h' F w' ∧ Same w w' ∧ (res = .ok (.value u) w' ∨ (res = .ok .skip w' ∧ u = undef))

section
variable {C : Cx} {ρ : Map} {h h' : Heap} {F : Nat → Option FObj} {w : World} {env : Env} {a : Act} {r : Rec} {o : Oper} {ao : AOp} {v : AV}

theorem Good.pure (hr : HR C ρ h F w) {u : Value} {res : Result Next} (hv : VR ρ v u) (e : res = .ok (.value u) w) : Good C ρ h F w v h res :=
  ⟨ρ, u, w, Out.refl _ _ _, Nat.le_refl _, hv, hr, Same.refl w, .inl e⟩

theorem VR.none : VR ρ (.tup []) undef := by simp only [VR]; exact ⟨[], rfl, VRs.nil⟩

/-- A new block of cells. -/
theorem Good.newRow (hr : HR C ρ h F w) (hf : Fr ρ h.next h.next.succ) {cs : List AV} {vs : List Value} (hv : VRs ρ cs vs) (e : TypeId) (lim : Nat) (sp : Option Nat)
    (hs : ∀ k, sp = some k → lim ≤ vs.length) :
    ∃ ρ' l, ρ'.upd h.next l = ρ' ∧ l.block = w.heap.size ∧ l.base = 0 ∧ l.lim = lim ∧ Out ρ ρ' h.next h.next.succ ∧ ρ' h.next = some l ∧ Ext ρ ρ' ∧
      HR C ρ' ⟨PT.set h.next (.cells cs sp) h.t, h.next.succ⟩ F { w with heap := w.heap.push (.cells vs.toArray e) } := by
  have hn : ρ h.next = none := hf h.next (Nat.le_refl _) (by rw [Pos.nat_succ]; omega)
  let l : Loc := ⟨w.heap.size, 0, lim⟩
  refine ⟨ρ.upd h.next l, l, ?_, rfl, rfl, rfl, ρ.upd_out _ l, ρ.upd_same _ l, Map.upd_ext hn, ?_⟩
  · funext x; simp only [Map.upd]; split <;> rfl
  · refine hr.alloc hn _ _ l rfl ?_
    intro ρ' he
    refine ⟨vs.toArray, e, .of (by simp [l]), ?_, ?_⟩
    · intro i x hx
      obtain ⟨u, h1, h2⟩ := hv.get hx
      exact ⟨u, by simpa [l] using h1, VR.mono he _ _ h2⟩
    · intro k hk
      have h2 := hs k hk
      simpa [l] using h2

variable (ok : C.OK) (hr : HR C ρ h F w) (he : ER ρ env.tmps a.tmps) (hf : Fr ρ h.next h'.next) (ht : trOp C.ty C.ib o = some ao) (hev : evalOp r env h ao = .ok v h')

include hr he ht hev in
theorem good_move {x : Operand} (ho : o.op = .move x ∨ o.op = .assign x) : Good C ρ h F w v h' ((execOp a.eval o).run C.P w) := by
  have ht' : (trArg x).map AOp.move = some ao := by rcases ho with ho | ho <;> simpa [trOp, ho] using ht
  obtain ⟨y, hy, rfl⟩ := Option.map_eq_some_iff.1 ht'
  simp only [evalOp, R.ok.injEq] at hev
  obtain ⟨rfl, rfl⟩ := hev
  refine Good.pure hr (val_good hy he) ?_
  rcases ho with ho | ho <;> simp [execOp, ho]

include hr he ht hev in
theorem good_pick {c x y : Operand} (ho : o.op = .pick c x y) : Good C ρ h F w v h' ((execOp a.eval o).run C.P w) := by
  simp [trOp, ho, Option.bind_eq_some_iff] at ht
  obtain ⟨c', hc, x', hx, y', hy, rfl⟩ := ht
  have h1 := val_good hc he
  simp only [evalOp] at hev
  split at hev
  · rename_i e
    cases hev
    rw [e] at h1
    simp only [VR] at h1
    exact Good.pure hr (val_good hx he) (by simp [execOp, ho, h1, asBool])
  · rename_i e
    cases hev
    rw [e] at h1
    simp only [VR] at h1
    exact Good.pure hr (val_good hy he) (by simp [execOp, ho, h1, asBool])
  · cases hev

theorem ofVal_def {u : Value} {z : AV} (h : ofVal u = some z) : z ≠ .undef := by
  intro hu
  subst hu
  unfold ofVal at h
  split at h
  case h_9 => split at h <;> cases h
  case h_10 =>
    obtain ⟨l, _, h1⟩ := Option.map_eq_some_iff.1 h
    cases h1
  all_goals cases h

theorem zeroCells_run (ok : C.OK) {t : TypeId} {z : List AV} (h : zeroCells C.ty t = some z) (w : World) :
    ∃ u, (zeroValue t).run C.P w = .ok u w ∧ ∀ ρ : Map, VRs ρ z u.cells.toList := by
  unfold zeroCells at h
  cases e : C.ty t with
  | none => rw [e] at h; cases h
  | some i =>
    rw [e] at h
    simp only [Option.bind_some] at h
    obtain ⟨z', hz, rfl⟩ := Option.map_eq_some_iff.1 h
    obtain ⟨u, h1, h2⟩ := run_zero ok e hz w
    refine ⟨u, h1, fun ρ => VR.cells (ofVal_good ρ u z' h2) ?_⟩
    exact ofVal_def h2

include ok hr ht hev hf in
theorem good_alloc {t : TypeId} (ho : o.op = .alloc t) : Good C ρ h F w v h' ((execOp a.eval o).run C.P w) := by
  have ht' : (zeroCells C.ty t).map AOp.alloc = some ao := by simpa [trOp, ho] using ht
  obtain ⟨z, hz, rfl⟩ := Option.map_eq_some_iff.1 ht'
  obtain ⟨u, h1, h2⟩ := zeroCells_run ok hz w
  simp only [evalOp, alloc, R.ok.injEq] at hev
  obtain ⟨rfl, rfl⟩ := hev
  obtain ⟨ρ', l, _, hb, h0, _, h3, h4, _, h5⟩ := Good.newRow (C := C) hr hf (h2 ρ) t 0 none (fun k e => by cases e)
  refine ⟨ρ', .pointer (some (l.at 0)), _, h3, by simp [Pos.nat_succ], ?_, h5, ⟨rfl, rfl, rfl, by simp⟩, .inl ?_⟩
  · simp only [VR]; exact ⟨l, h4, rfl⟩
  · simp [execOp, ho, Instr.alloc, h1, newVar, newRow, Loc.at, hb, h0]

include hr he ht hev hf in
theorem good_box {t : TypeId} {x : Operand} (ho : o.op = .box t x) : Good C ρ h F w v h' ((execOp a.eval o).run C.P w) := by
  have ht' : (trArg x).map AOp.box = some ao := by simpa [trOp, ho] using ht
  obtain ⟨y, hy, rfl⟩ := Option.map_eq_some_iff.1 ht'
  have h1 := val_good hy he
  simp only [evalOp, alloc] at hev
  split at hev
  · cases hev
  · rename_i hu
    cases hev
    have h2 := VR.cells h1 hu
    obtain ⟨ρ', l, _, hb, h0, _, h3, h4, _, h5⟩ := Good.newRow (C := C) hr hf h2 t 0 none (fun k e => by cases e)
    refine ⟨ρ', .pointer (some (l.at 0)), _, h3, by simp [Pos.nat_succ], ?_, h5, ⟨rfl, rfl, rfl, by simp⟩, .inl ?_⟩
    · simp only [VR]; exact ⟨l, h4, rfl⟩
    · simp [execOp, ho, Instr.box, newVar, newRow, Loc.at, hb, h0]

include ok hr he ht hev in
theorem good_load {t : TypeId} {x : Operand} (ho : o.op = .load t x) : Good C ρ h F w v h' ((execOp a.eval o).run C.P w) := by
  simp [trOp, ho, Option.bind_eq_some_iff] at ht
  obtain ⟨i, hi, y, hy, rfl⟩ := ht
  have h1 := val_good hy he
  simp only [evalOp] at hev
  split at hev
  · rename_i b off e
    rw [e] at h1
    simp only [VR] at h1
    obtain ⟨l, hl, hx⟩ := h1
    have hrun : (execOp a.eval o).run C.P w = ((loadVar t (l.at off)).run C.P w).andThen fun u w' => .ok (.value u) w' := by
      simp [execOp, ho, Instr.loadAt, hx, Instr.sureAddr]
    split at hev
    · rename_i cs sp hb
      obtain ⟨c, ety, h2, h3, _⟩ := hr.row hb hl
      split at hev
      · rename_i hn
        split at hev
        · rename_i u hu
          cases hev
          rw [nth_eq] at hu
          obtain ⟨x', h4, h5⟩ := h3 _ _ hu
          have hagg : i.agg = false := by unfold TI.cells at hn; split at hn <;> simp_all
          refine Good.pure hr h5 ?_
          rw [hrun]
          simp [loadVar, run_agg ok hi w, hagg, cell_of_rowAt h2, h4]
        · cases hev
      · rename_i k hk
        split at hev
        · rename_i rr hrr
          cases hev
          have hagg : i.agg = true ∧ i.size = k := by unfold TI.cells at hk; split at hk <;> simp_all
          obtain ⟨vs, h4, h5, h6⟩ := read_cells (C := C) hr hb hl hrr
          refine Good.pure hr (u := .agg vs.toArray) (by simp only [VR]; exact ⟨vs, rfl, h4⟩) ?_
          rw [hrun]
          simp [loadVar, run_agg ok hi w, hagg.1, run_size ok hi w, hagg.2, h6]
        · cases hev
    · cases hev
  · cases hev

include ok hr he ht hev in
theorem good_store {t : TypeId} {x y : Operand} (ho : o.op = .store t x y) : Good C ρ h F w v h' ((execOp a.eval o).run C.P w) := by
  simp [trOp, ho, Option.bind_eq_some_iff] at ht
  obtain ⟨i, hi, x', hx, y', hy, rfl⟩ := ht
  have h1 := val_good hx he
  have h2 := val_good hy he
  simp only [evalOp] at hev
  split at hev
  · rename_i b off e
    rw [e] at h1
    simp only [VR] at h1
    obtain ⟨l, hl, hx'⟩ := h1
    split at hev
    · rename_i cs sp hb
      split at hev
      · rename_i hn hc
        split at hev
        · rename_i cs' hcs
          cases hev
          have hcells := allCells_eq hc
          have hu : val env.tmps y' ≠ .undef := by
            intro e2
            rw [e2] at hcells
            exact absurd (hcells .undef (by simp [AV.cells])) (by simp [AV.isCell])
          have h3 := VR.cells h2 hu
          have h4 : (a.eval y).cells.size = i.size := by
            have h5 := h3.length
            have h6 := Nat.eq_of_beq_eq_true hn
            rw [len_eq] at h6
            simp only [Array.length_toList] at h5
            have h7 : cellsN i.cells = i.size := by
              unfold TI.cells
              cases hagg : i.agg with
              | true => rfl
              | false => exact (ok.one t i hi hagg).symm
            omega
          obtain ⟨w', h5, h6, h7⟩ := write_cells (C := C) hr hb hl hcs h3 hcells
          refine ⟨ρ, undef, w', Out.refl _ _ _, Nat.le_refl _, VR.none, h6, h7, .inr ⟨?_, rfl⟩⟩
          simp [execOp, ho, Instr.storeAt, hx', Instr.sureAddr, storeVar, h4, run_size ok hi w, h5]
        · cases hev
      · cases hev
    · cases hev
  · cases hev

end
end Go.Am

namespace Go.Am
section
variable {C : Cx} {ρ : Map} {h h' : Heap} {F : Nat → Option FObj} {w : World} {env : Env} {a : Act} {r : Rec} {o : Oper} {ao : AOp} {v : AV}
variable (ok : C.OK) (hr : HR C ρ h F w) (he : ER ρ env.tmps a.tmps) (hf : Fr ρ h.next h'.next) (ht : trOp C.ty C.ib o = some ao) (hev : evalOp r env h ao = .ok v h')

include hr he ht hev in
theorem good_nilCheck {x : Operand} (ho : o.op = .nilCheck x) : Good C ρ h F w v h' ((execOp a.eval o).run C.P w) := by
  have ht' : (trArg x).map AOp.nilCheck = some ao := by simpa [trOp, ho] using ht
  obtain ⟨y, hy, rfl⟩ := Option.map_eq_some_iff.1 ht'
  have h1 := val_good hy he
  simp only [evalOp] at hev
  split at hev
  · rename_i b off e
    cases hev
    rw [e] at h1
    refine Good.pure hr h1 ?_
    simp only [VR] at h1
    obtain ⟨l, _, h2⟩ := h1
    simp [execOp, ho, h2]
  · rename_i f p q e
    cases hev
    rw [e] at h1
    refine Good.pure hr h1 ?_
    simp only [VR] at h1
    obtain ⟨l, _, h2, _⟩ := h1
    simp [execOp, ho, h2]
  · rename_i e
    cases hev
    rw [e] at h1
    refine Good.pure hr h1 ?_
    simp only [VR] at h1
    obtain ⟨l, _, h2⟩ := h1
    simp [execOp, ho, h2]
  · cases hev

theorem run_eqGuard_none {op : BinOp} {t : TypeId} {x y : Operand} {u v : Value} {P : Program} (h1 : ¬(u = .nilIface ∧ v = .nilIface)) (h2 : u.oneCell' = true) (w : World) :
    (eqGuard op t x y u v).run P w = .ok () w := by
  cases op <;> first
    | rfl
    | (cases u <;> cases v <;> first | rfl | (exact absurd ⟨rfl, rfl⟩ h1) | (exact absurd h2 (by simp [Value.oneCell'])))

theorem same_int {j k : IntKind} {x y : Int} {b : Bool} (h : same .int (.int j x) (.int k y) = some b) : j = k ∧ b = (x == y) := by
  simp only [same] at h
  split at h
  · rename_i e; cases h; exact ⟨eqKind_eq e, eqI_eq x y⟩
  · cases h

theorem eqBool_eq (a b : Bool) : eqBool a b = (a == b) := by cases a <;> cases b <;> rfl

theorem str_eq {a b : ByteArray} {x y : List Nat} (hx : x = a.data.toList.map UInt8.toNat) (hy : y = b.data.toList.map UInt8.toNat) : eqStr x y = (a.toList == b.toList) := by
  have key : (x = y) ↔ a.data.toList = b.data.toList := by
    constructor
    · intro h
      rw [hx, hy] at h
      exact UInt8.map_inj h
    · intro h
      rw [hx, hy, h]
  rw [eqStr_eq, Bool.eq_iff_iff, beq_iff_eq, beq_iff_eq, key, Lib.toList_data a, Lib.toList_data b]

theorem run_eqGuard_const {op : BinOp} {t : TypeId} {x : Operand} {u v : Value} {P : Program} (h1 : v.oneCell' = true) (w : World) :
    (eqGuard op t x (.const .nilIface) u v).run P w = .ok () w := by
  cases op <;> first
    | rfl
    | (cases u <;> cases v <;> first | rfl | (cases x <;> rfl) | (exact absurd h1 (by simp [Value.oneCell'])))

theorem VR.int {k : IntKind} {n : Int} : VR ρ (.int k n) (.int k n) := by simp only [VR]
theorem VR.bool {b : Bool} : VR ρ (.bool b) (.bool b) := by simp only [VR]

theorem equal_step (t : TypeId) (x y : Value) : ∃ d, Op.equal t x y = Op.equalIn (d + 1) t x y := ⟨9999, rfl⟩

/-- Where equality by a type comes to a bool, so do the two operators. -/
theorem run_eq_ne {P : Program} {t : TypeId} {x y : Value} {b : Bool} (h : (Op.equal t x y).run P w = .ok b w) (he : binOp .eql t x y = (do pure (.bool (← Op.equal t x y)))) (hn : binOp .neq t x y = (do pure (.bool (!(← Op.equal t x y))))) :
    (binOp .eql t x y).run P w = .ok (.bool b) w ∧ (binOp .neq t x y).run P w = .ok (.bool !b) w := by
  rw [he, hn]
  simp [h]

/-- Equality of two values of a kind. -/
theorem run_same (ok : C.OK) {t : TypeId} {q : EqK} {x y : AV} {u v : Value} {b : Bool} {xo yo : Operand}
    (hq : eqKOf C.ty t = some q) (hs : same q x y = some b) (hx : VR ρ x u) (hy : VR ρ y v) (w : World) :
    (eqGuard .eql t xo yo u v).run C.P w = .ok () w ∧ (eqGuard .neq t xo yo u v).run C.P w = .ok () w ∧ (binOp .eql t u v).run C.P w = .ok (.bool b) w ∧ (binOp .neq t u v).run C.P w = .ok (.bool !b) w := by
  have hu : ∃ d, under C.ty t = some d ∧ (match d with
      | .int _ => q = .int | .bool => q = .bool | .string => q = .str | .pointer _ => q = .ptr | .slice _ => q = .slice | .map _ _ => q = .map | .func _ _ _ => q = .func | _ => False) := by
    unfold eqKOf at hq
    cases e : under C.ty t with
    | none => rw [e] at hq; cases hq
    | some d => rw [e] at hq; refine ⟨d, rfl, ?_⟩; cases d <;> simp_all
  obtain ⟨d, hd, hk⟩ := hu
  have hrun := run_under ok hd w
  cases q with
  | int =>
    cases x <;> cases y <;> simp only [same, reduceCtorEq] at hs
    rename_i j m k n
    split at hs
    · rename_i e
      have := eqKind_eq e
      subst this
      cases hs
      simp only [VR] at hx hy
      subst hx; subst hy
      refine ⟨rfl, rfl, ?_, ?_⟩
      · simp [binOp, Op.intCmp, eqI_eq]
      · simp [binOp, Op.intCmp, eqI_eq, bne]
    · cases hs
  | bool =>
    cases x <;> cases y <;> simp only [same, reduceCtorEq, Option.some.injEq] at hs
    subst hs
    simp only [VR] at hx hy
    subst hx; subst hy
    cases d <;> simp at hk
    refine ⟨rfl, rfl, run_eq_ne ?_ rfl rfl⟩
    rw [eqBool_eq]; obtain ⟨dd, ed⟩ := equal_step t (.bool _) (.bool _); rw [ed]; unfold Op.equalIn; simp only [Sem.run_bind, hrun, Result.andThen_ok]; rfl
  | str =>
    cases x <;> cases y <;> simp only [same, reduceCtorEq, Option.some.injEq] at hs
    subst hs
    simp only [VR] at hx hy
    obtain ⟨s1, rfl, h1⟩ := hx
    obtain ⟨s2, rfl, h2⟩ := hy
    have h3 := str_eq h1 h2
    refine ⟨rfl, rfl, ?_, ?_⟩ <;> simp [binOp, Op.stringOp, h3]
  | ptr =>
    cases d <;> simp at hk
    cases x <;> cases y <;> simp only [same, reduceCtorEq, Option.some.injEq] at hs <;> subst hs <;> simp only [VR] at hx hy
    · subst hx; subst hy
      refine ⟨rfl, rfl, run_eq_ne ?_ rfl rfl⟩
      obtain ⟨dd, ed⟩ := equal_step t _ _; rw [ed]; unfold Op.equalIn; simp only [Sem.run_bind, hrun, Result.andThen_ok]; rfl
    · obtain ⟨l, _, rfl⟩ := hy
      subst hx
      refine ⟨rfl, rfl, run_eq_ne ?_ rfl rfl⟩
      obtain ⟨dd, ed⟩ := equal_step t _ _; rw [ed]; unfold Op.equalIn; simp only [Sem.run_bind, hrun, Result.andThen_ok]; rfl
    · obtain ⟨l, _, rfl⟩ := hx
      subst hy
      refine ⟨rfl, rfl, run_eq_ne ?_ rfl rfl⟩
      obtain ⟨dd, ed⟩ := equal_step t _ _; rw [ed]; unfold Op.equalIn; simp only [Sem.run_bind, hrun, Result.andThen_ok]; rfl
  | slice =>
    cases d <;> simp at hk
    cases x <;> cases y <;> simp only [same, reduceCtorEq, Option.some.injEq] at hs <;> subst hs <;> simp only [VR] at hy
    · simp only [VR] at hx
      subst hx; subst hy
      refine ⟨rfl, rfl, run_eq_ne ?_ rfl rfl⟩
      obtain ⟨dd, ed⟩ := equal_step t _ _; rw [ed]; unfold Op.equalIn; simp only [Sem.run_bind, hrun, Result.andThen_ok]; rfl
    · rename_i cap
      have hx' : ∃ p m n, u = .slice (some p) m n := by
        cases cap <;> simp only [VR] at hx
        · obtain ⟨l, _, p, c, h1, _⟩ := hx; exact ⟨_, _, _, h1⟩
        · obtain ⟨l, _, p, h1, _⟩ := hx; exact ⟨_, _, _, h1⟩
      obtain ⟨p, m, n, rfl⟩ := hx'
      subst hy
      refine ⟨rfl, rfl, run_eq_ne ?_ rfl rfl⟩
      obtain ⟨dd, ed⟩ := equal_step t _ _; rw [ed]; unfold Op.equalIn; simp only [Sem.run_bind, hrun, Result.andThen_ok]; rfl
  | map =>
    cases d <;> simp at hk
    cases x <;> cases y <;> simp only [same, reduceCtorEq, Option.some.injEq] at hs <;> subst hs <;> simp only [VR] at hx hy
    · subst hx; subst hy
      refine ⟨rfl, rfl, run_eq_ne ?_ rfl rfl⟩
      obtain ⟨dd, ed⟩ := equal_step t _ _; rw [ed]; unfold Op.equalIn; simp only [Sem.run_bind, hrun, Result.andThen_ok]; rfl
    · obtain ⟨l, _, rfl⟩ := hx
      subst hy
      refine ⟨rfl, rfl, run_eq_ne ?_ rfl rfl⟩
      obtain ⟨dd, ed⟩ := equal_step t _ _; rw [ed]; unfold Op.equalIn; simp only [Sem.run_bind, hrun, Result.andThen_ok]; rfl
  | func =>
    cases d <;> simp at hk
    cases x <;> cases y <;> simp only [same, reduceCtorEq, Option.some.injEq] at hs <;> subst hs <;> simp only [VR] at hx hy
    · subst hx; subst hy
      refine ⟨rfl, rfl, run_eq_ne ?_ rfl rfl⟩
      obtain ⟨dd, ed⟩ := equal_step t _ _; rw [ed]; unfold Op.equalIn; simp only [Sem.run_bind, hrun, Result.andThen_ok]; rfl
    · obtain ⟨_, _, rfl, _⟩ := hx
      subst hy
      refine ⟨rfl, rfl, run_eq_ne ?_ rfl rfl⟩
      obtain ⟨dd, ed⟩ := equal_step t _ _; rw [ed]; unfold Op.equalIn; simp only [Sem.run_bind, hrun, Result.andThen_ok]; rfl
    · obtain ⟨l, _, rfl⟩ := hx
      subst hy
      refine ⟨rfl, rfl, run_eq_ne ?_ rfl rfl⟩
      obtain ⟨dd, ed⟩ := equal_step t _ _; rw [ed]; unfold Op.equalIn; simp only [Sem.run_bind, hrun, Result.andThen_ok]; rfl
  | iface => cases d <;> simp at hk

/-- An interface value against nil. -/
theorem run_same_iface (ok : C.OK) {t : TypeId} {x y : AV} {u v : Value} {b : Bool} {xo : Operand} {ms : Array (String × TypeId)}
    (hq : under C.ty t = some (.interface ms)) (hs : same .iface x y = some b) (hx : VR ρ x u) (hy : VR ρ y v) (w : World) :
    (eqGuard .eql t xo (.const .nilIface) u v).run C.P w = .ok () w ∧ (eqGuard .neq t xo (.const .nilIface) u v).run C.P w = .ok () w ∧ (binOp .eql t u v).run C.P w = .ok (.bool b) w ∧ (binOp .neq t u v).run C.P w = .ok (.bool !b) w := by
  have hrun := run_under ok hq w
  cases x <;> cases y <;> simp only [same, reduceCtorEq, Option.some.injEq] at hs <;> subst hs <;> simp only [VR] at hx hy
  · subst hx; subst hy
    refine ⟨run_eqGuard_const rfl w, run_eqGuard_const rfl w, run_eq_ne ?_ rfl rfl⟩
    obtain ⟨dd, ed⟩ := equal_step t _ _; rw [ed]; unfold Op.equalIn; simp only [Sem.run_bind, hrun, Result.andThen_ok]; rfl
  · obtain ⟨_, rfl, _⟩ := hx
    subst hy
    refine ⟨run_eqGuard_const rfl w, run_eqGuard_const rfl w, run_eq_ne ?_ rfl rfl⟩
    obtain ⟨dd, ed⟩ := equal_step t _ _; rw [ed]; unfold Op.equalIn; simp only [Sem.run_bind, hrun, Result.andThen_ok]; rfl

theorem run_eqGuard_other {op : BinOp} {t : TypeId} {x y : Operand} {u v : Value} {P : Program} (h : op ≠ .eql ∧ op ≠ .neq) (w : World) : (eqGuard op t x y u v).run P w = .ok () w := by
  cases op <;> first | rfl | (exact absurd rfl h.1) | (exact absurd rfl h.2)

def binOpOf : ABin → Option BinOp
  | .add => some .add | .sub => some .sub | .mul => some .mul | .quo => some .quo | .rem => some .rem
  | .and => some .and | .or => some .or | .xor => some .xor | .andNot => some .andNot | .shl => some .shl | .shr => some .shr
  | .lss => some .lss | .leq => some .leq | .gtr => some .gtr | .geq => some .geq
  | .eq _ => none | .ne _ => none

theorem run_binI {b : ABin} {op : BinOp} {j k : IntKind} {x y : Int} {v : AV} (hb : binOpOf b = some op) (h : binI b j x k y = some v) (P : Program) (t : TypeId) (w : World) :
    ∃ u, (binOp op t (.int j x) (.int k y)).run P w = .ok u w ∧ VR ρ v u := by
  cases b <;> simp only [binOpOf, Option.some.injEq, reduceCtorEq] at hb <;> subst hb <;> simp only [binI, bits] at h
  case shl =>
    split at h
    · cases h
    · rename_i e
      cases h
      rw [ltI_eq] at e
      simp at e
      refine ⟨_, ?_, VR.int⟩
      simp [binOp, Op.shift, wrapI_eq, show ¬ y < 0 by omega]
  case shr =>
    split at h
    · cases h
    · rename_i e
      cases h
      rw [ltI_eq] at e
      simp at e
      refine ⟨_, ?_, VR.int⟩
      simp [binOp, Op.shift, show ¬ y < 0 by omega]
  all_goals
    split at h
    · cases h
    · rename_i e
      have e := eqKind_eq e
      subst e
      first
        | (cases h
           refine ⟨_, ?_, (by first | exact VR.int | exact VR.bool)⟩
           simp only [binOp, Op.intArith, Op.intCmp, Op.intBits, wrapI_eq, ltI_eq, ne_eq, not_true_eq_false, if_false, Sem.run_pure]
           first | done | rfl | (congr 2; rw [Bool.eq_iff_iff]; simp))
        | (split at h
           · cases h
           · rename_i e2
             cases h
             rw [eqI_eq] at e2
             simp at e2
             refine ⟨_, ?_, VR.int⟩
             simp [binOp, Op.intDiv, wrapI_eq, e2])

end
end Go.Am

namespace Go.Am
section
variable {C : Cx} {ρ : Map} {h h' : Heap} {F : Nat → Option FObj} {w : World} {env : Env} {a : Act} {r : Rec} {o : Oper} {ao : AOp} {v : AV}
variable (ok : C.OK) (hr : HR C ρ h F w) (he : ER ρ env.tmps a.tmps) (hf : Fr ρ h.next h'.next) (ht : trOp C.ty C.ib o = some ao) (hev : evalOp r env h ao = .ok v h')

theorem map_toArray {α β : Type} (f : α → β) (x : Array α) : x.map f = (x.toList.map f).toArray := by
  apply Array.ext'
  simp

theorem trBin_inv {C : Cx} {op : BinOp} {t : TypeId} {y : Operand} {b : ABin} (h : trBin C.ty op t y = some b) :
    (binOpOf b = some op ∧ op ≠ .eql ∧ op ≠ .neq) ∨
    (∃ q, eqKOf C.ty t = some q ∧ ((op = .eql ∧ b = .eq q) ∨ (op = .neq ∧ b = .ne q))) ∨
    (∃ ms, under C.ty t = some (.interface ms) ∧ y = .const .nilIface ∧ ((op = .eql ∧ b = .eq .iface) ∨ (op = .neq ∧ b = .ne .iface))) := by
  cases op <;> simp only [trBin, Option.some.injEq] at h
  case eql =>
    right
    split at h
    · rename_i ms e
      cases h
      exact .inr ⟨ms, e, rfl, .inl ⟨rfl, rfl⟩⟩
    · obtain ⟨q, h1, h2⟩ := Option.map_eq_some_iff.1 h
      exact .inl ⟨q, h1, .inl ⟨rfl, h2.symm⟩⟩
  case neq =>
    right
    split at h
    · rename_i ms e
      cases h
      exact .inr ⟨ms, e, rfl, .inr ⟨rfl, rfl⟩⟩
    · obtain ⟨q, h1, h2⟩ := Option.map_eq_some_iff.1 h
      exact .inl ⟨q, h1, .inr ⟨rfl, h2.symm⟩⟩
  all_goals (subst h; exact .inl ⟨rfl, by decide, by decide⟩)

include ok hr he ht hev in
theorem good_bin {op : BinOp} {t : TypeId} {x y : Operand} {yt : TypeId} (ho : o.op = .binOp op t x y yt) : Good C ρ h F w v h' ((execOp a.eval o).run C.P w) := by
  simp [trOp, ho, Option.bind_eq_some_iff] at ht
  obtain ⟨b, hb, x', hx, y', hy, rfl⟩ := ht
  have h1 := val_good hx he
  have h2 := val_good hy he
  simp only [evalOp] at hev
  have hrun : ∀ u, (eqGuard op t x y (a.eval x) (a.eval y)).run C.P w = .ok () w → (binOp op t (a.eval x) (a.eval y)).run C.P w = .ok u w → (execOp a.eval o).run C.P w = .ok (.value u) w := by
    intro u e1 e2
    simp [execOp, ho, e1, e2]
  rcases trBin_inv hb with ⟨hb1, hb2, hb3⟩ | ⟨q, hq, hc⟩ | ⟨ms, hq, rfl, hc⟩
  · have hg := run_eqGuard_other (P := C.P) (t := t) (x := x) (y := y) (u := a.eval x) (v := a.eval y) ⟨hb2, hb3⟩ w
    have hev' : (∃ j m k n z, val env.tmps x' = .int j m ∧ val env.tmps y' = .int k n ∧ binI b j m k n = some z ∧ v = z ∧ h = h') ∨
        (∃ s s', val env.tmps x' = .str s ∧ val env.tmps y' = .str s' ∧ b = .add ∧ s.length + s'.length ≤ 1000000000 ∧ v = .str (s ++ s') ∧ h = h') := by
      unfold bin at hev
      split at hev
      · simp [binOpOf] at hb1
      · simp [binOpOf] at hb1
      · split at hev
        · rename_i j m k n e1 e2
          split at hev
          · rename_i z hz
            cases hev
            exact .inl ⟨j, m, k, n, v, e1, e2, hz, rfl, rfl⟩
          · cases hev
        · rename_i s s' e1 e2
          split at hev
          · split at hev
            · rename_i hl
              cases hev
              exact .inr ⟨s, s', e1, e2, rfl, Nat.le_of_ble_eq_true hl, rfl, rfl⟩
            · cases hev
          · cases hev
        · cases hev
    rcases hev' with ⟨j, m, k, n, z, e1, e2, e3, rfl, rfl⟩ | ⟨s, s', e1, e2, rfl, hl, rfl, rfl⟩
    · rw [e1] at h1
      rw [e2] at h2
      simp only [VR] at h1 h2
      obtain ⟨u, h3, h4⟩ := run_binI (ρ := ρ) hb1 e3 C.P t w
      exact Good.pure hr h4 (hrun u hg (by rw [h1, h2]; exact h3))
    · rw [e1] at h1
      rw [e2] at h2
      simp only [VR] at h1 h2
      obtain ⟨b1, h3, h4⟩ := h1
      obtain ⟨b2, h5, h6⟩ := h2
      simp only [binOpOf, Option.some.injEq] at hb1
      subst hb1
      have hs1 : b1.size = s.length := by rw [h4, List.length_map, Array.length_toList]; rfl
      have hs2 : b2.size = s'.length := by rw [h6, List.length_map, Array.length_toList]; rfl
      refine Good.pure hr (u := .string (b1 ++ b2)) ?_ (hrun _ hg ?_)
      · simp only [VR]
        exact ⟨_, rfl, by rw [h4, h6]; simp⟩
      · rw [h3, h5]
        have : ¬ (((b1.size + b2.size : Nat) : Int) > IntKind.i64.max) := by
          rw [hs1, hs2]
          have : IntKind.i64.max = 9223372036854775807 := by decide
          rw [this]
          omega
        simp only [binOp, Op.stringOp, this, if_false, Sem.run_pure]
  · have hs : ∃ z, same q (val env.tmps x') (val env.tmps y') = some z := by
      rcases hc with ⟨rfl, rfl⟩ | ⟨rfl, rfl⟩ <;> simp only [bin, boolV] at hev <;> split at hev
      all_goals first
        | cases hev; done
        | (rename_i z hz; exact ⟨z, hz⟩)
    obtain ⟨z, hz⟩ := hs
    obtain ⟨g1, g2, g3, g4⟩ := run_same ok hq hz h1 h2 (xo := x) (yo := y) w
    rcases hc with ⟨rfl, rfl⟩ | ⟨rfl, rfl⟩
    · simp only [bin, boolV, hz, R.ok.injEq] at hev
      obtain ⟨rfl, rfl⟩ := hev
      exact Good.pure hr VR.bool (hrun _ g1 g3)
    · simp only [bin, boolV, hz, R.ok.injEq] at hev
      obtain ⟨rfl, rfl⟩ := hev
      exact Good.pure hr VR.bool (hrun _ g2 g4)
  · have hs : ∃ z, same .iface (val env.tmps x') (val env.tmps y') = some z := by
      rcases hc with ⟨rfl, rfl⟩ | ⟨rfl, rfl⟩ <;> simp only [bin, boolV] at hev <;> split at hev
      all_goals first
        | cases hev; done
        | (rename_i z hz; exact ⟨z, hz⟩)
    obtain ⟨z, hz⟩ := hs
    obtain ⟨g1, g2, g3, g4⟩ := run_same_iface ok hq hz h1 h2 (xo := x) w
    rcases hc with ⟨rfl, rfl⟩ | ⟨rfl, rfl⟩
    · simp only [bin, boolV, hz, R.ok.injEq] at hev
      obtain ⟨rfl, rfl⟩ := hev
      exact Good.pure hr VR.bool (hrun _ g1 g3)
    · simp only [bin, boolV, hz, R.ok.injEq] at hev
      obtain ⟨rfl, rfl⟩ := hev
      exact Good.pure hr VR.bool (hrun _ g2 g4)

include hr he ht hev in
theorem good_unOp {op : UnOp} {t : TypeId} {x : Operand} (ho : o.op = .unOp op t x) : Good C ρ h F w v h' ((execOp a.eval o).run C.P w) := by
  cases op <;> simp [trOp, ho] at ht
  case not =>
    obtain ⟨y, hy, rfl⟩ := ht
    have h1 := val_good hy he
    simp only [evalOp] at hev
    split at hev
    · rename_i b e
      cases hev
      rw [e] at h1
      simp only [VR] at h1
      exact Good.pure hr VR.bool (by simp [execOp, ho, h1, Op.unary])
    · cases hev
  case neg =>
    obtain ⟨y, hy, rfl⟩ := ht
    have h1 := val_good hy he
    simp only [evalOp] at hev
    split at hev
    · rename_i k n e
      cases hev
      rw [e] at h1
      simp only [VR] at h1
      exact Good.pure hr VR.int (by simp [execOp, ho, h1, Op.unary, Op.intArith, wrapI_eq])
    · cases hev

include hr he ht hev in
theorem good_makeFunc {fn : Fn} {x y : Array Operand} (ho : o.op = .makeFunc fn x y) : Good C ρ h F w v h' ((execOp a.eval o).run C.P w) := by
  cases fn <;> simp [trOp, ho, Option.bind_eq_some_iff] at ht
  obtain ⟨hlt, x', hx, y', hy, rfl⟩ := ht
  simp only [evalOp, R.ok.injEq] at hev
  obtain ⟨rfl, rfl⟩ := hev
  rename_i f
  have h4 : f < 16777216 := Nat.lt_of_lt_of_le hlt (by decide)
  refine Good.pure hr (u := .func (.func f) (x.map a.eval) (y.map a.eval)) ?_ (by simp [execOp, ho, Instr.makeFunc])
  simp only [VR]
  exact ⟨x.toList.map a.eval, y.toList.map a.eval, by rw [Pos.idx_ofIdx h4, map_toArray, map_toArray], vals_good he hx, vals_good he hy⟩

include ok hr he ht hev in
theorem good_makeIface {t : TypeId} {x : Operand} (ho : o.op = .makeInterface t x) : Good C ρ h F w v h' ((execOp a.eval o).run C.P w) := by
  simp [trOp, ho, Option.bind_eq_some_iff] at ht
  obtain ⟨d, hd, ht⟩ := ht
  have hrun := run_under ok hd w
  have key : ∀ y, trArg x = some y → ao = .mkiface t y → (∀ ms, d ≠ .interface ms) → Good C ρ h F w v h' ((execOp a.eval o).run C.P w) := by
    intro y hy e hd2
    subst e
    simp only [evalOp, R.ok.injEq] at hev
    obtain ⟨rfl, rfl⟩ := hev
    refine Good.pure hr (u := .iface t (a.eval x)) ?_ ?_
    · simp only [VR]; exact ⟨_, rfl, val_good hy he⟩
    · simp only [execOp, ho, Instr.makeInterface, Sem.run_bind, hrun, Result.andThen_ok]
      cases d <;> first | rfl | (exact absurd rfl (hd2 _))
  cases d <;> simp [Option.bind_eq_some_iff] at ht
  all_goals (obtain ⟨y, hy, e⟩ := ht; exact key y hy e.symm (by simp))

theorem run_part_one (ok : C.OK) {t : TypeId} {i : TI} (hi : C.ty t = some i) (hn : i.cells = none) {cs : List Value} {off : Nat} {u : Value} (hu : cs[off]? = some u) (w : World) :
    (part t cs.toArray off).run C.P w = .ok u w := by
  have hagg : i.agg = false := by unfold TI.cells at hn; split at hn <;> simp_all
  simp [part, run_agg ok hi w, hagg, hu]

theorem run_part_agg (ok : C.OK) {t : TypeId} {i : TI} {k : Nat} (hi : C.ty t = some i) (hn : i.cells = some k) (cs : List Value) (off : Nat) (w : World) :
    (part t cs.toArray off).run C.P w = .ok (.agg ((cs.drop off).take k).toArray) w := by
  have hagg : i.agg = true ∧ i.size = k := by unfold TI.cells at hn; split at hn <;> simp_all
  simp only [part, Sem.run_bind, run_agg ok hi w, Result.andThen_ok, hagg.1, if_true, run_size ok hi w, hagg.2, Sem.run_pure]
  congr 2
  apply Array.ext'
  simp [List.extract]

theorem VRs.sub {r : List AV} {cs : List AV} {l : List Value} {off k : Nat} (h : VRs ρ cs l) (ht : takeX (dropX cs off) k = some r) : VRs ρ r ((l.drop off).take k) := by
  obtain ⟨h1, h2⟩ := takeX_eq ht
  rw [dropX_eq] at h1
  have hlen := h.length
  refine VRs.ofGet ?_ ?_
  · have h3 : r.length = ((cs.drop off).take k).length := by rw [h1]
    simp at h3 ⊢
    omega
  · intro j x u e1 e2
    rw [h1, List.getElem?_take] at e1
    rw [List.getElem?_take] at e2
    split at e1
    · rw [if_pos (by assumption)] at e2
      rw [List.getElem?_drop] at e1 e2
      obtain ⟨z, h3, h4⟩ := h.getElem e1
      rw [h3] at e2
      cases e2
      exact h4
    · cases e1

include ok hr he ht hev in
theorem good_field {t : TypeId} {x : Operand} {k : Nat} (ho : o.op = .field t x k) : Good C ρ h F w v h' ((execOp a.eval o).run C.P w) := by
  simp [trOp, ho, Option.bind_eq_some_iff] at ht
  obtain ⟨d, hd, ht⟩ := ht
  cases d <;> simp [Option.bind_eq_some_iff] at ht
  rename_i fields
  obtain ⟨fd, hfd, i, hi, y, hy, rfl⟩ := ht
  have h1 := val_good hy he
  have hrun := run_under ok hd w
  simp only [evalOp] at hev
  split at hev
  · rename_i cs e
    rw [e] at h1
    simp only [VR] at h1
    obtain ⟨l, hx, h2⟩ := h1
    split at hev
    · rename_i hn
      split at hev
      · rename_i u hu
        cases hev
        obtain ⟨z, h3, h4⟩ := h2.get hu
        exact Good.pure hr h4 (by simp [execOp, ho, Instr.field, hrun, hx, asAgg, hfd, run_part_one ok hi hn h3])
      · cases hev
    · rename_i m hm
      split at hev
      · rename_i rr hrr
        cases hev
        refine Good.pure hr (u := .agg ((l.drop fd.offset).take m).toArray) ?_ (by simp [execOp, ho, Instr.field, hrun, hx, asAgg, hfd, run_part_agg ok hi hm])
        simp only [VR]
        exact ⟨_, rfl, h2.sub hrr⟩
      · cases hev
  · cases hev

include ok hr he ht hev in
theorem good_fieldAddr {t : TypeId} {x : Operand} {k : Nat} (ho : o.op = .fieldAddr t x k) : Good C ρ h F w v h' ((execOp a.eval o).run C.P w) := by
  simp [trOp, ho, Option.bind_eq_some_iff] at ht
  obtain ⟨d, hd, ht⟩ := ht
  cases d <;> simp [Option.bind_eq_some_iff] at ht
  rename_i fields
  obtain ⟨fd, hfd, i, hi, hz, y, hy, rfl⟩ := ht
  have h1 := val_good hy he
  have hrun := run_under ok hd w
  simp only [evalOp] at hev
  split at hev
  · rename_i b off e
    cases hev
    rw [e] at h1
    simp only [VR] at h1
    obtain ⟨l, hl, hx⟩ := h1
    refine Good.pure hr (u := .pointer (some (l.at (off + fd.offset)))) (by simp only [VR]; exact ⟨l, hl, rfl⟩) ?_
    simp [execOp, ho, Instr.fieldAt, hrun, hx, hfd, Instr.sureAddr, fieldPlace, run_size ok hi w, hz, Loc.at_add]
  · cases hev

include ok hr he ht hev in
theorem good_indexAddr {t : TypeId} {x y : Operand} (ho : o.op = .indexAddr t x y) : Good C ρ h F w v h' ((execOp a.eval o).run C.P w) := by
  simp [trOp, ho, Option.bind_eq_some_iff] at ht
  obtain ⟨d, hd, ht⟩ := ht
  have hrun := run_under ok hd w
  cases d <;> simp [Option.bind_eq_some_iff] at ht
  case array n e =>
    obtain ⟨i, hi, x', hx, y', hy, rfl⟩ := ht
    have h1 := val_good hx he
    have h2 := val_good hy he
    simp only [evalOp] at hev
    split at hev
    · rename_i b off k m e1 e2
      rw [e1] at h1
      rw [e2] at h2
      split at hev
      · rename_i hlt
        cases hev
        rw [Nat.blt_eq] at hlt
        simp only [VR] at h1 h2
        obtain ⟨l, hl, hx'⟩ := h1
        refine Good.pure hr (u := .pointer (some (l.at (off + m * i.size)))) (by simp only [VR]; exact ⟨l, hl, rfl⟩) ?_
        simp [execOp, ho, Instr.indexAt, hrun, hx', h2, asIntOf, Instr.sureAddr, hlt, run_size ok hi w, Loc.at_add]
      · cases hev
    · cases hev
  case slice e =>
    obtain ⟨i, hi, x', hx, y', hy, rfl⟩ := ht
    have h1 := val_good hx he
    have h2 := val_good hy he
    simp only [evalOp] at hev
    split at hev
    · rename_i b off len cap k m e1 e2
      rw [e1] at h1
      rw [e2] at h2
      split at hev
      · rename_i hlt
        cases hev
        rw [Nat.blt_eq] at hlt
        simp only [VR] at h2
        have h3 : ∃ l c, ρ b = some l ∧ a.eval x = .slice (some (l.at off)) len c := by
          cases cap <;> simp only [VR] at h1
          · obtain ⟨l, hl, p, c, hx', hlc, hp⟩ := h1
            rw [(hp (by omega)).1] at hx'
            exact ⟨l, c, hl, hx'⟩
          · obtain ⟨l, hl, p, hx', hlc, hp⟩ := h1
            rw [hp (by omega)] at hx'
            exact ⟨l, _, hl, hx'⟩
        obtain ⟨l, c, hl, hx'⟩ := h3
        refine Good.pure hr (u := .pointer (some (l.at (off + m * i.size)))) (by simp only [VR]; exact ⟨l, hl, rfl⟩) ?_
        simp [execOp, ho, Instr.indexAt, hrun, hx', h2, asIntOf, hlt, run_size ok hi w, Loc.at_add]
      · cases hev
    · cases hev

include ok hr he ht hev in
theorem good_index {t : TypeId} {x y : Operand} (ho : o.op = .index t x y) : Good C ρ h F w v h' ((execOp a.eval o).run C.P w) := by
  simp [trOp, ho, Option.bind_eq_some_iff] at ht
  obtain ⟨d, hd, ht⟩ := ht
  have hrun := run_under ok hd w
  cases d <;> simp [Option.bind_eq_some_iff] at ht
  case string =>
    obtain ⟨x', hx, y', hy, rfl⟩ := ht
    have h1 := val_good hx he
    have h2 := val_good hy he
    simp only [evalOp] at hev
    split at hev
    · rename_i s k m e1 e2
      rw [e1] at h1
      rw [e2] at h2
      split at hev
      · rename_i c hc
        cases hev
        simp only [VR] at h1 h2
        obtain ⟨bs, hx', hs⟩ := h1
        rw [hs, List.getElem?_map] at hc
        obtain ⟨z, hz, rfl⟩ := Option.map_eq_some_iff.1 hc
        refine Good.pure hr VR.int ?_
        have hz' : bs[m]? = some z := by
          rw [Array.getElem?_toList] at hz
          rw [Array.getElem?_eq_some_iff] at hz
          obtain ⟨hz1, hz2⟩ := hz
          rw [getElem?_pos bs m hz1]
          exact congrArg some hz2
        simp [execOp, ho, Instr.index, hrun, hx', h2, asIntOf, hz']
      · cases hev
    · rename_i n k m e1 e2
      rw [e1] at h1
      rw [e2] at h2
      split at hev
      · rename_i hlt
        cases hev
        rw [Nat.blt_eq] at hlt
        simp only [VR] at h1 h2
        obtain ⟨bs, hx', hs⟩ := h1
        refine Good.pure hr VR.int ?_
        have hz : bs.data.toList[m]? = some 0 := by rw [hs]; simp [hlt]
        have hz' : bs[m]? = some 0 := by
          rw [Array.getElem?_toList] at hz
          rw [Array.getElem?_eq_some_iff] at hz
          obtain ⟨hz1, hz2⟩ := hz
          rw [getElem?_pos bs m hz1]
          exact congrArg some hz2
        simp [execOp, ho, Instr.index, hrun, hx', h2, asIntOf, hz']
      · cases hev
    · cases hev
  case array n e =>
    obtain ⟨i, hi, x', hx, y', hy, rfl⟩ := ht
    have h1 := val_good hx he
    have h2 := val_good hy he
    simp only [evalOp] at hev
    split at hev
    · rename_i cs k m e1 e2
      rw [e1] at h1
      rw [e2] at h2
      simp only [VR] at h1 h2
      obtain ⟨l, hx', h3⟩ := h1
      split at hev
      · rename_i hlt
        rw [Nat.blt_eq] at hlt
        split at hev
        · rename_i hn
          split at hev
          · rename_i u hu
            cases hev
            obtain ⟨z, h4, h5⟩ := h3.get hu
            exact Good.pure hr h5 (by simp [execOp, ho, Instr.index, hrun, hx', h2, asIntOf, hlt, run_size ok hi w, run_part_one ok hi hn h4])
          · cases hev
        · rename_i q hq
          split at hev
          · rename_i rr hrr
            cases hev
            refine Good.pure hr (u := .agg ((l.drop (m * i.size)).take q).toArray) ?_ (by simp [execOp, ho, Instr.index, hrun, hx', h2, asIntOf, hlt, run_size ok hi w, run_part_agg ok hi hq])
            simp only [VR]
            exact ⟨_, rfl, h3.sub hrr⟩
          · cases hev
      · cases hev
    · cases hev

include hr he ht hev in
theorem good_extract {x : Operand} {k : Nat} (ho : o.op = .extract x k) : Good C ρ h F w v h' ((execOp a.eval o).run C.P w) := by
  have ht' : (trArg x).map (AOp.extract k) = some ao := by simpa [trOp, ho] using ht
  obtain ⟨y, hy, rfl⟩ := Option.map_eq_some_iff.1 ht'
  have h1 := val_good hy he
  simp only [evalOp] at hev
  split at hev
  · rename_i vs e
    rw [e] at h1
    simp only [VR] at h1
    obtain ⟨l, hx, h2⟩ := h1
    split at hev
    · rename_i u hu
      cases hev
      obtain ⟨z, h3, h4⟩ := h2.get hu
      exact Good.pure hr h4 (by simp [execOp, ho, Instr.extract, hx, h3])
    · cases hev
  · cases hev

end
end Go.Am

namespace Go.Am
section
variable {C : Cx} {ρ : Map} {h h' : Heap} {F : Nat → Option FObj} {w : World} {env : Env} {a : Act} {r : Rec} {o : Oper} {ao : AOp} {v : AV}
variable (ok : C.OK) (hr : HR C ρ h F w) (he : ER ρ env.tmps a.tmps) (hf : Fr ρ h.next h'.next) (ht : trOp C.ty C.ib o = some ao) (hev : evalOp r env h ao = .ok v h')

theorem VRs.take {n : Nat} : ∀ {cs : List AV} {l : List Value}, VRs ρ cs l → VRs ρ (cs.take n) (l.take n) := by
  induction n with
  | zero => intro cs l _; simp [VRs.nil]
  | succ n ih =>
    intro cs l hv
    cases cs with
    | nil => simp only [VRs] at hv; subst hv; simp [VRs.nil]
    | cons x cs =>
      simp only [VRs] at hv
      obtain ⟨y, ys, rfl, h1, h2⟩ := hv
      simpa using VRs.cons h1 (ih h2)

theorem VRs.drop {n : Nat} : ∀ {cs : List AV} {l : List Value}, VRs ρ cs l → VRs ρ (cs.drop n) (l.drop n) := by
  induction n with
  | zero => intro cs l hv; simpa using hv
  | succ n ih =>
    intro cs l hv
    cases cs with
    | nil => simp only [VRs] at hv; subst hv; simp [VRs.nil]
    | cons x cs =>
      simp only [VRs] at hv
      obtain ⟨y, ys, rfl, h1, h2⟩ := hv
      simpa using ih h2

theorem VRs.write {off : Nat} {cs new cs' : List AV} {l vs : List Value} (hv : VRs ρ cs l) (hn : VRs ρ new vs) (hw : writeAt off new cs = some cs') :
    VRs ρ cs' (l.take off ++ vs ++ l.drop (off + vs.length)) := by
  obtain ⟨_, h2⟩ := writeAt_eq hw
  rw [h2, hn.length]
  exact (hv.take.append hn).append hv.drop

theorem take_set (l : List Value) (p : Nat) (x : Value) (h : p < l.length) : (l.set p x).take (p + 1) = l.take p ++ [x] := by
  rw [List.set_eq_take_append_cons_drop, if_pos h, List.take_append]
  have : (l.take p).length = p := by simp; omega
  rw [this, List.take_of_length_le (by omega), show p + 1 - p = 1 by omega]
  rfl

theorem drop_set (l : List Value) (p n : Nat) (x : Value) : (l.set p x).drop (p + 1 + n) = l.drop (p + 1 + n) := by
  apply List.ext_getElem?
  intro j
  rw [List.getElem?_drop, List.getElem?_drop, List.getElem?_set_ne (by omega)]

theorem foldl_write (off : Nat) : ∀ (vs : List Value) (k : Nat) (c : Array Value), off + k + vs.length ≤ c.size →
    ((vs.zipIdx k).foldl (fun cs (x, j) => cs.setIfInBounds (off + j) x) c).toList = c.toList.take (off + k) ++ vs ++ c.toList.drop (off + k + vs.length)
  | [], k, c, _ => by simp
  | x :: vs, k, c, hk => by
    simp only [List.length_cons] at hk
    simp only [List.zipIdx_cons, List.foldl_cons]
    rw [foldl_write off vs (k + 1) _ (by simp; omega)]
    simp only [Array.toList_setIfInBounds, List.length_cons]
    rw [show off + (k + 1) = off + k + 1 by omega, take_set _ _ _ (by simp; omega), drop_set, show off + k + (vs.length + 1) = off + k + 1 + vs.length by omega]
    simp

theorem fill_good {place place' : Nat → Option (Nat × Nat)} (hp : ∀ i, place' i = place i) (he : ER ρ env.tmps a.tmps) : ∀ (ps : List (Nat × Operand)) (ys : List (Nat × Nat × AArg)) (cells cells' : List AV) (c : Array Value),
    trParts ps place = some ys → fillA env.tmps ys cells = some cells' → VRs ρ cells c.toList → ∃ c', Instr.fill place' c (ps.map fun (i, x) => (i, a.eval x)) = some c' ∧ VRs ρ cells' c'.toList
  | [], ys, cells, cells', c, h1, h2, h3 => by
    simp only [trParts, List.mapM_nil] at h1
    cases h1
    simp only [fillA, Option.some.injEq] at h2
    subst h2
    exact ⟨c, rfl, h3⟩
  | (i, x) :: ps, ys, cells, cells', c, h1, h2, h3 => by
    simp only [trParts, List.mapM_cons] at h1
    cases e1 : place i with
    | none => simp [e1] at h1
    | some os =>
      obtain ⟨off, size⟩ := os
      cases e2 : trArg x with
      | none => simp [e1, e2] at h1
      | some y =>
        cases e3 : List.mapM (fun (p : Nat × Operand) => (place p.1).bind fun (q : Nat × Nat) => (trArg p.2).map fun b => (q.1, q.2, b)) ps with
        | none => simp [e1, e2] at h1; simp [e3] at h1
        | some zs =>
          have h1' : (off, size, y) :: zs = ys := by simp [e1, e2] at h1; simpa [e3] using h1
          subst h1'
          simp only [fillA] at h2
          split at h2
          · cases h2
          · rename_i hu
            split at h2
            · rename_i hs
              split at h2
              · rename_i c2 hc2
                have hv := VR.cells (val_good e2 he) hu
                have hs' := Nat.eq_of_beq_eq_true hs
                rw [len_eq] at hs'
                obtain ⟨h4, _⟩ := writeAt_eq hc2
                have h5 := hv.length
                have h6 := h3.length
                simp only [Array.length_toList] at h5 h6
                have h7 := foldl_write off (a.eval x).cells.toList 0 c (by simp; omega)
                have h8 := h3.write hv hc2
                simp only [Nat.add_zero] at h7
                rw [← h7] at h8
                obtain ⟨c', h9, h10⟩ := fill_good hp he ps zs c2 cells' _ e3 h2 h8
                refine ⟨c', ?_, h10⟩
                simp only [List.map_cons, Instr.fill, hp, e1]
                rw [if_neg (by simp; omega)]
                rw [← h9]
                congr 1
                rw [← Array.foldl_toList]
                simp
              · cases h2
            · cases h2

theorem run_mapM_places (ok : C.OK) : ∀ (l : List Field) (ps : List (Nat × Nat)), (l.mapM fun f => (C.ty f.type).map fun t => (f.offset, t.size)) = some ps → ∀ w,
    (l.mapM fun f => (do pure (f.offset, ← sizeOf f.type) : Sem (Nat × Nat))).run C.P w = .ok ps w
  | [], ps, e, w => by simp only [List.mapM_nil] at e; cases e; rfl
  | f :: l, ps, e, w => by
    simp only [List.mapM_cons] at e ⊢
    cases e1 : C.ty f.type with
    | none => simp [e1] at e
    | some t =>
      cases e2 : (l.mapM fun f => (C.ty f.type).map fun t => (f.offset, t.size)) with
      | none => simp [e1, e2] at e
      | some qs =>
        simp [e1, e2] at e
        subst e
        simp only [Sem.run_bind, Sem.run_pure, run_size ok e1 w, Result.andThen_ok, run_mapM_places ok l qs e2 w]

include ok hr he ht hev in
theorem good_build {t : TypeId} {parts : Array (Nat × Operand)} (ho : o.op = .build t parts) : Good C ρ h F w v h' ((execOp a.eval o).run C.P w) := by
  simp [trOp, ho, Option.bind_eq_some_iff] at ht
  obtain ⟨z, hz, d, hd, ht⟩ := ht
  have hrun := run_under ok hd w
  obtain ⟨u, hu1, hu2⟩ := zeroCells_run ok hz w
  cases d <;> simp [Option.bind_eq_some_iff] at ht
  case struct fields =>
    obtain ⟨ps, hps, l, hl, rfl⟩ := ht
    simp only [evalOp] at hev
    split at hev
    · rename_i cs hcs
      cases hev
      obtain ⟨c', h1, h2⟩ := fill_good (place' := fun i => ps.toArray[i]?) (fun i => by simp) he parts.toList l z cs _ hl hcs (hu2 ρ)
      refine Good.pure hr (u := .agg c') (by simp only [VR]; exact ⟨c'.toList, by simp, h2⟩) ?_
      have h3 : (fields.mapM fun f => (do pure (f.offset, ← sizeOf f.type) : Sem (Nat × Nat))).run C.P w = .ok ps.toArray w := by
        rw [Array.mapM_eq_mapM_toList]
        simp only [Sem.run_map, run_mapM_places ok fields.toList ps hps w, Result.andThen_ok]
      have h4 : (parts.map fun (i, x) => (i, a.eval x)).toList = parts.toList.map fun (i, x) => (i, a.eval x) := by simp
      simp only [execOp, ho, Instr.build, Sem.run_bind, hu1, Result.andThen_ok, hrun, h3]
      rw [h4, h1]
      rfl
    · cases hev
  case array n e =>
    obtain ⟨i, hi, l, hl, rfl⟩ := ht
    simp only [evalOp] at hev
    split at hev
    · rename_i cs hcs
      cases hev
      obtain ⟨c', h1, h2⟩ := fill_good (place' := fun k => some (k * i.size, i.size)) (fun i => rfl) he parts.toList l z cs _ hl hcs (hu2 ρ)
      refine Good.pure hr (u := .agg c') (by simp only [VR]; exact ⟨c'.toList, by simp, h2⟩) ?_
      have h4 : (parts.map fun (i, x) => (i, a.eval x)).toList = parts.toList.map fun (i, x) => (i, a.eval x) := by simp
      simp only [execOp, ho, Instr.build, Sem.run_bind, hu1, Result.andThen_ok, hrun, run_size ok hi w]
      rw [h4, h1]
      rfl
    · cases hev

end
end Go.Am

