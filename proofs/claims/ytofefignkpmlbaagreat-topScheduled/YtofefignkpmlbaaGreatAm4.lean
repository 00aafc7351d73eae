/- An abstract machine for Go code and its soundness over the model; no condition of its own. Used by the proof that the law TopScheduled returns true at every input. -/
import Derived.Test.YtofefignkpmlbaaGreatAm3
import Derived.Laws.BytesString
namespace Go.Am
section
variable {C : Cx} {ρ : Map} {h h' : Heap} {F : Nat → Option FObj} {w : World} {env : Env} {a : Act} {r : Rec} {o : Oper} {ao : AOp} {v : AV}
variable (ok : C.OK) (hr : HR C ρ h F w) (he : ER ρ env.tmps a.tmps) (hf : Fr ρ h.next h'.next) (ht : trOp C.ty C.ib o = some ao) (hev : evalOp r env h ao = .ok v h')

/-- So many copies of a row of cells, as the model lays them. -/
theorem rep_cells {z : List AV} {u : Array Value} (hz : VRs ρ z u.toList) : ∀ n, VRs ρ (List.replicate n z).flatten ((Array.range (n * u.size)).map (fun j => u[j % u.size]!)).toList := by
  intro n
  have hlen := hz.length
  simp only [Array.length_toList] at hlen
  refine VRs.ofGet ?_ ?_
  · simp [hlen]
  · intro j x y e1 e2
    have hj : j < n * z.length := by
      have := (List.getElem?_eq_some_iff.1 e1).1
      simpa using this
    have hz0 : 0 < z.length := by
      rcases Nat.eq_zero_or_pos z.length with h0 | h0
      · rw [h0] at hj; omega
      · exact h0
    have e3 : (List.replicate n z).flatten[j]? = z[j % z.length]? := by
      clear e1 e2
      induction n generalizing j with
      | zero => omega
      | succ n ih =>
        rw [List.replicate_succ, List.flatten_cons]
        by_cases h1 : j < z.length
        · rw [List.getElem?_append_left h1, Nat.mod_eq_of_lt h1]
        · rw [List.getElem?_append_right (by omega), ih (j - z.length) (by rw [Nat.succ_mul] at hj; omega)]
          congr 1
          rw [Nat.mod_eq_sub_mod (a := j) (by omega)]
    rw [e3] at e1
    obtain ⟨y', h1, h2⟩ := hz.getElem e1
    simp only [Array.toList_map, Array.toList_range, List.getElem?_map] at e2
    rw [List.getElem?_range (by rw [hlen]; exact hj)] at e2
    simp only [Option.map_some, Option.some.injEq] at e2
    rw [hlen] at e2
    rw [Array.getElem?_toList] at h1
    rw [getElem!_pos u (j % z.length) (by rw [hlen]; exact Nat.mod_lt _ hz0)] at e2
    rw [Array.getElem?_eq_some_iff] at h1
    obtain ⟨_, h1⟩ := h1
    rw [← e2, h1]
    exact h2

include ok hr he ht hev hf in
theorem good_buildSlice {t : TypeId} {n : Nat} {parts : Array (Nat × Operand)} (ho : o.op = .buildSlice t n parts) : Good C ρ h F w v h' ((execOp a.eval o).run C.P w) := by
  simp [trOp, ho, Option.bind_eq_some_iff] at ht
  obtain ⟨d, hd, ht⟩ := ht
  have hrun := run_under ok hd w
  cases d <;> simp [Option.bind_eq_some_iff] at ht
  rename_i e
  obtain ⟨i, hi, z, hz, l, hl, ⟨hn, hzl⟩, rfl⟩ := ht
  obtain ⟨u, hu1, hu2⟩ := zeroCells_run ok hz w
  simp only [evalOp] at hev
  split at hev
  · rename_i cs hcs
    simp only [alloc, R.ok.injEq] at hev
    obtain ⟨rfl, rfl⟩ := hev
    have hul : u.cells.size = i.size := by have := (hu2 ρ).length; simp only [Array.length_toList] at this; omega
    have hz2 : VRs ρ (List.replicate n z).flatten ((Array.range (n * i.size)).map (fun j => u.cells[j % u.cells.size]!)).toList := by
      have := rep_cells (hu2 ρ) n
      rw [hul] at this ⊢
      exact this
    obtain ⟨c', h1, h2⟩ := fill_good (place' := fun k => some (k * i.size, i.size)) (fun _ => rfl) he parts.toList l _ cs _ hl hcs hz2
    obtain ⟨ρ', lc, _, hb, h0, _, h3, h4, _, h5⟩ := Good.newRow (C := C) hr hf h2 e 0 none (fun k e => by cases e)
    refine ⟨ρ', .slice (some (lc.at 0)) n n, _, h3, by simp [Pos.nat_succ], ?_, h5, ⟨rfl, rfl, rfl, by simp⟩, .inl ?_⟩
    · simp only [VR]; exact ⟨lc, h4, _, rfl, Nat.le_refl _, fun _ => rfl⟩
    · have h6 : (parts.map fun (i, x) => (i, a.eval x)).toList = parts.toList.map fun (i, x) => (i, a.eval x) := by simp
      have h7 : ¬ (n * i.size > 2 ^ 24) := by omega
      simp only [execOp, ho, Instr.buildSlice, Sem.run_bind, hrun, Result.andThen_ok, run_size ok hi w, if_neg h7, h6, Sem.run_ite]
      by_cases h8 : n * i.size = 0
      · have hs : (Array.range (n * i.size)).map (fun j => (#[] : Array Value)[j % (#[] : Array Value).size]!) = (Array.range (n * i.size)).map (fun j => u.cells[j % u.cells.size]!) := by rw [h8]; simp
        rw [if_pos h8]
        simp only [Sem.run_pure, Result.andThen_ok]
        rw [hs, h1]
        simp [newRow, Loc.at, hb, h0]
      · rw [if_neg h8]
        simp only [Sem.run_pure, Result.andThen_ok, hu1]
        rw [h1]
        simp [newRow, Loc.at, hb, h0]
  · cases hev

theorem HR.newObj (hr : HR C ρ h F w) (hf : Fr ρ h.next h.next.succ) (o : AObj) (x : Obj) (ho : ∀ ρ' l, l.block = w.heap.size → l.base = 0 → ObjR C ρ' { w with heap := w.heap.push x } l o) :
    ∃ ρ' l, l.block = w.heap.size ∧ l.base = 0 ∧ Out ρ ρ' h.next h.next.succ ∧ ρ' h.next = some l ∧ HR C ρ' ⟨PT.set h.next o h.t, h.next.succ⟩ F { w with heap := w.heap.push x } := by
  have hn : ρ h.next = none := hf h.next (Nat.le_refl _) (by rw [Pos.nat_succ]; omega)
  let l : Loc := ⟨w.heap.size, 0, 0⟩
  exact ⟨ρ.upd h.next l, l, rfl, rfl, ρ.upd_out _ l, ρ.upd_same _ l, hr.alloc hn _ _ l rfl (fun ρ' _ => ho ρ' l rfl rfl)⟩

include ok hr ht hev hf in
theorem good_makeMap {t : TypeId} {rv : Option Operand} (ho : o.op = .makeMap t rv) : Good C ρ h F w v h' ((execOp a.eval o).run C.P w) := by
  have key : ∀ q, ao = .mkmap q → (execOp a.eval o).run C.P w = .ok (.value (.map (some w.heap.size))) { w with heap := w.heap.push (.map #[] 0) } → Good C ρ h F w v h' ((execOp a.eval o).run C.P w) := by
    intro q e hrun
    subst e
    simp only [evalOp, R.ok.injEq] at hev
    obtain ⟨rfl, rfl⟩ := hev
    obtain ⟨ρ', l, hb, _, h3, h4, h5⟩ := HR.newObj (C := C) hr hf (.map q []) (.map #[] 0) (fun ρ' l hl _ => ⟨#[], 0, [], by simp [hl], by simp, by simp [EntR], by simp [Apart]⟩)
    exact ⟨ρ', .map (some w.heap.size), _, h3, by simp [Pos.nat_succ], by simp only [VR]; exact ⟨l, h4, by rw [hb]⟩, h5, ⟨rfl, rfl, rfl, by simp⟩, .inl hrun⟩
  have fin : ∀ d, under C.ty t = some d → (∀ k e, d = .map k e → ∃ q, ao = .mkmap q) → (∃ k e, d = .map k e) → (rv = none ∨ ∃ k n, rv = some (.const (.int k n))) → Good C ρ h F w v h' ((execOp a.eval o).run C.P w) := by
    intro d hd h1 h2 h3
    obtain ⟨k, e, rfl⟩ := h2
    obtain ⟨q, hq⟩ := h1 k e rfl
    refine key q hq ?_
    have hrun := run_under ok hd w
    rcases h3 with rfl | ⟨kk, n, rfl⟩
    · simp [execOp, ho, Instr.makeMap]
    · simp [execOp, ho, Instr.makeMap, hrun, asInt, asIntOf, Act.eval]
  cases rv with
  | none =>
    simp [trOp, ho, Option.bind_eq_some_iff] at ht
    obtain ⟨d, hd, ht⟩ := ht
    cases d <;> simp at ht
    obtain ⟨q, _, hq⟩ := ht
    exact fin _ hd (fun _ _ _ => ⟨q, hq.symm⟩) ⟨_, _, rfl⟩ (.inl rfl)
  | some x =>
    cases x <;> simp [trOp, ho] at ht
    rename_i cv
    cases cv <;> simp [Option.bind_eq_some_iff] at ht
    obtain ⟨d, hd, ht⟩ := ht
    cases d <;> simp at ht
    obtain ⟨q, _, hq⟩ := ht
    exact fin _ hd (fun _ _ _ => ⟨q, hq.symm⟩) ⟨_, _, rfl⟩ (.inr ⟨_, _, rfl⟩)

theorem wrap64_small {n : Nat} (h : n ≤ 1000000) : IntKind.i64.wrap (n : Int) = n := by
  simp [IntKind.wrap, IntKind.bits, IntKind.signed]; omega

theorem rep_one (z : AV) : ∀ c k, k < c → (List.replicate c [z]).flatten[k]? = some z
  | 0, k, hk => by omega
  | c + 1, 0, _ => by rw [List.replicate_succ, List.flatten_cons]; rfl
  | c + 1, k + 1, hk => by
    rw [List.replicate_succ, List.flatten_cons]
    simpa using rep_one z c k (by omega)

include ok hr he ht hev hf in
theorem good_makeSlice {t : TypeId} {x y : Operand} (ho : o.op = .makeSlice t x y) : Good C ρ h F w v h' ((execOp a.eval o).run C.P w) := by
  simp [trOp, ho, Option.bind_eq_some_iff] at ht
  obtain ⟨d, hd, ht⟩ := ht
  have hrun := run_under ok hd w
  cases d <;> simp [Option.bind_eq_some_iff] at ht
  rename_i e
  obtain ⟨i, hi, z, hz, ⟨hzl, hby⟩, x', hx, y', hy, rfl⟩ := ht
  obtain ⟨u, hu1, hu2⟩ := zeroCells_run ok hz w
  obtain ⟨inf, hinf, hib⟩ := run_info ok hi w
  have hul : u.cells.size = i.size := by have := (hu2 ρ).length; simp only [Array.length_toList] at this; omega
  have h1 := val_good hx he
  have h2 := val_good hy he
  simp only [evalOp] at hev
  split at hev
  · rename_i n c e1 e2
    rw [e1] at h1
    rw [e2] at h2
    simp only [VR] at h1 h2
    split at hev
    · rename_i hnc hc
      have hnc := Nat.le_of_ble_eq_true hnc
      have hc := Nat.le_of_ble_eq_true hc
      have hmodel : (execOp a.eval o).run C.P w = .ok (.value (.slice (some ⟨w.heap.size, 0, none⟩) n c)) { w with heap := w.heap.push (.cells ((Array.range (c * i.size)).map (fun j => u.cells[j % u.cells.size]!)) e) } := by
        have hl64 : IntKind.i64.wrap (n : Int) = n := wrap64_small (by omega)
        have hc64 : IntKind.i64.wrap (c : Int) = c := wrap64_small hc
        have hbig : ¬ ((inf.bytes : Int) * (c : Int) > 2 ^ 48) := by
          have h3 : inf.bytes * c ≤ 65536 * 1000000 := Nat.mul_le_mul (by omega) hc
          have h4 : (inf.bytes : Int) * (c : Int) = ((inf.bytes * c : Nat) : Int) := by simp
          rw [h4]
          omega
        have hcond : (decide ((c : Int) < 0) || decide ((inf.bytes : Int) * (c : Int) > 2 ^ 48) || decide ((n : Int) < 0) || decide ((n : Int) > (c : Int))) = false := by
          simp only [Bool.or_eq_false_iff, decide_eq_false_iff_not]
          refine ⟨⟨⟨by omega, hbig⟩, by omega⟩, by omega⟩
        simp only [execOp, ho, Instr.makeSlice, Sem.run_bind, hrun, Result.andThen_ok, h1, h2, asInt, asIntOf, Sem.run_pure, hinf, Int.ofNat_eq_natCast, hl64, hc64]
        rw [if_neg (by rw [hcond]; simp)]
        simp only [Sem.run_bind, run_askRoom, Result.andThen_ok, run_size ok hi w, Int.toNat_natCast, Sem.run_ite]
        by_cases h8 : c * i.size = 0
        · have hs : (Array.range (c * i.size)).map (fun j => (#[] : Array Value)[j % (#[] : Array Value).size]!) = (Array.range (c * i.size)).map (fun j => u.cells[j % u.cells.size]!) := by rw [h8]; simp
          rw [if_pos h8]
          simp only [Sem.run_pure, Result.andThen_ok]
          rw [hs]
          simp [newRow]
        · rw [if_neg h8]
          simp only [Sem.run_pure, Result.andThen_ok, hu1]
          simp [newRow]
      have hrep := rep_cells (hu2 ρ) c
      rw [hul] at hrep
      have hmain : ∀ cs, cs = (List.replicate c z).flatten → alloc cs none (fun b => AV.slice b 0 n (.c c)) h = .ok v h' → Good C ρ h F w v h' ((execOp a.eval o).run C.P w) := by
        intro cs ecs hal
        simp only [alloc, R.ok.injEq] at hal
        obtain ⟨rfl, rfl⟩ := hal
        subst ecs
        obtain ⟨ρ', lc, _, hb, h0, _, h3, h4, _, h5⟩ := Good.newRow (C := C) hr hf hrep e 0 none (fun k e => by cases e)
        refine ⟨ρ', .slice (some (lc.at 0)) n c, _, h3, by simp [Pos.nat_succ], ?_, h5, ⟨rfl, rfl, rfl, by simp⟩, .inl ?_⟩
        · simp only [VR]; exact ⟨lc, h4, _, rfl, hnc, fun _ => rfl⟩
        · rw [hmodel, hul, Array.toArray_toList]
          simp only [Loc.at, hb, h0]
      split at hev
      · rename_i z1
        split at hev
        · refine hmain _ ?_ hev
          clear hev hmain hrep hf hu2 hz hzl
          induction c with
          | zero => rfl
          | succ c ih => simp [List.replicate_succ]
        · rename_i hbig
          cases hev
          obtain ⟨ρ', l, hb, hb0, h3, h4, h5⟩ := HR.newObj (C := C) hr hf (.rep c z1) (.cells ((Array.range (c * i.size)).map (fun j => u.cells[j % u.cells.size]!)) e) (fun ρ' l hl hl0 => by
            refine ⟨(Array.range (c * i.size)).map (fun j => u.cells[j % u.cells.size]!), e, by simp [hl], fun k hk => ?_⟩
            have h6 := rep_cells (hu2 ρ') c
            rw [hul] at h6 ⊢
            have h7 := rep_one z1 c k hk
            obtain ⟨y, h8, h9⟩ := h6.getElem h7
            exact ⟨y, by rw [← Array.getElem?_toList, hl0, Nat.zero_add]; exact h8, h9⟩)
          refine ⟨ρ', .slice (some (l.at 0)) n c, _, h3, by simp [Pos.nat_succ], ?_, h5, ⟨rfl, rfl, rfl, by simp⟩, .inl ?_⟩
          · simp only [VR]; exact ⟨l, h4, _, rfl, hnc, fun _ => rfl⟩
          · rw [hmodel]
            simp only [Loc.at, hb, hb0]
      · rename_i zs
        split at hev
        · exact hmain _ rfl hev
        · cases hev
    · cases hev
  · cases hev

theorem bytesOf_eq : ∀ {vs : List AV} {s : List Nat}, bytesOf vs = some s → vs = s.map (fun n => AV.int .u8 (.ofNat n)) ∧ ∀ n ∈ s, n < 256
  | [], s, h => by simp only [bytesOf, Option.some.injEq] at h; subst h; simp
  | x :: vs, s, h => by
    unfold bytesOf at h
    split at h
    · rename_i e; cases e
    · rename_i n l e
      cases e
      split at h
      · rename_i r h1 h2
        cases h
        obtain ⟨h3, h4⟩ := bytesOf_eq h2
        rw [Nat.blt_eq] at h1
        subst h3
        refine ⟨rfl, ?_⟩
        intro m hm
        cases hm with
        | head => exact h1
        | tail _ hm => exact h4 m hm
      · cases h
    · cases h

theorem foldl_push : ∀ (ns : List Int) (s : ByteArray), (ns.foldl (fun r n => r.push (UInt8.ofNat n.toNat)) s).data.toList = s.data.toList ++ ns.map (fun n => UInt8.ofNat n.toNat)
  | [], s => by simp
  | n :: ns, s => by
    simp only [List.foldl_cons, List.map_cons]
    rw [foldl_push ns (s.push _)]
    simp [ByteArray.push]

theorem VRs.ints : ∀ {s : List Nat} {l : List Value}, VRs ρ (s.map (fun n => AV.int .u8 (.ofNat n))) l → l = (s.map Int.ofNat).map (Value.int .u8)
  | [], l, h => by simpa [VRs] using h
  | n :: s, l, h => by
    simp only [List.map_cons, VRs] at h
    obtain ⟨v, vs, rfl, h1, h2⟩ := h
    simp only [VR] at h1
    rw [h1, VRs.ints h2]
    rfl

/-- A slice's cells are read, in whatever world of this memory. -/
theorem slice_read' {b : Pos} {off len size : Nat} {cap : Cap} {u : Value} (hr : HR C ρ h F w) (hv : VR ρ (.slice b off len cap) u) {cs rr : List AV} {sp : Option Nat} (hb : PT.get b h.t = some (.cells cs sp))
    (ht : takeX (dropX cs off) (len * size) = some rr) : ∃ p c vs, u = .slice (some p) len c ∧ len ≤ c ∧ VRs ρ rr vs ∧ vs.length = len * size ∧ ∀ w' : World, w'.heap = w.heap → (loadCells p (len * size)).run C.P w' = .ok vs.toArray w' := by
  have key : ∃ l p c, ρ b = some l ∧ u = .slice (some p) len c ∧ len ≤ c ∧ (0 < c → p = l.at off) := by
    cases cap <;> simp only [VR] at hv
    · obtain ⟨l, h1, p, c, h2, h3, h4⟩ := hv; exact ⟨l, p, c, h1, h2, h3, fun h => (h4 h).1⟩
    · obtain ⟨l, h1, p, h2, h3, h4⟩ := hv; exact ⟨l, p, _, h1, h2, h3, h4⟩
  obtain ⟨l, p, c, h1, h2, h3, h4⟩ := key
  by_cases h0 : len * size = 0
  · have h5 := (takeX_eq ht).2
    rw [h0] at h5
    have h6 : rr = [] := List.eq_nil_of_length_eq_zero h5
    subst h6
    refine ⟨p, c, [], h2, h3, VRs.nil, by rw [h0]; rfl, ?_⟩
    intro w' _
    rw [h0]
    simp [loadCells, loadCellsFrom]
  · have h5 : len ≠ 0 := fun e => h0 (by rw [e]; simp)
    obtain ⟨vs, h6, h7, h8⟩ := read_cells' (C := C) hr hb h1 ht
    exact ⟨p, c, vs, h2, h3, h6, h7, by rw [h4 (by omega)]; exact h8⟩

theorem slice_read {b : Pos} {off len size : Nat} {cap : Cap} {u : Value} (hr : HR C ρ h F w) (hv : VR ρ (.slice b off len cap) u) {cs rr : List AV} {sp : Option Nat} (hb : PT.get b h.t = some (.cells cs sp))
    (ht : takeX (dropX cs off) (len * size) = some rr) : ∃ p c vs, u = .slice (some p) len c ∧ len ≤ c ∧ VRs ρ rr vs ∧ vs.length = len * size ∧ (loadCells p (len * size)).run C.P w = .ok vs.toArray w := by
  obtain ⟨p, c, vs, h1, h2, h3, h4, h5⟩ := slice_read' (C := C) hr hv hb ht
  exact ⟨p, c, vs, h1, h2, h3, h4, h5 w rfl⟩

theorem str_of_nat {s : List Nat} (h : ∀ n ∈ s, n < 256) : (s.map Int.ofNat).map (fun n => UInt8.ofNat n.toNat) |>.map UInt8.toNat |> (· = s) := by
  induction s with
  | nil => rfl
  | cons n s ih =>
    have h1 := h n (by simp)
    have h2 := ih (fun m hm => h m (by simp [hm]))
    simp only [List.map_cons] at h2 ⊢
    rw [h2]
    simp
    omega

include ok hr he ht hev in
theorem good_convert {s d : TypeId} {x : Operand} (ho : o.op = .convert s d x) : Good C ρ h F w v h' ((execOp a.eval o).run C.P w) := by
  simp [trOp, ho, Option.bind_eq_some_iff] at ht
  obtain ⟨ds, hds, dd, hdd, ht⟩ := ht
  have hr1 := run_under ok hds w
  have hr2 := run_under ok hdd w
  split at ht
  · rename_i k1 k2
    simp [Option.bind_eq_some_iff] at ht
    obtain ⟨y, hy, rfl⟩ := ht
    have h1 := val_good hy he
    simp only [evalOp] at hev
    split at hev
    · rename_i k n e
      cases hev
      rw [e] at h1
      simp only [VR] at h1
      exact Good.pure hr VR.int (by simp [execOp, ho, convert, hr1, hr2, h1, Conv.intToInt, wrapI_eq])
    · cases hev
  · rename_i e
    simp [Option.bind_eq_some_iff] at ht
    obtain ⟨de, hde, ht⟩ := ht
    have hr3 := run_under ok hde w
    split at ht
    · simp [Option.bind_eq_some_iff] at ht
      obtain ⟨y, hy, rfl⟩ := ht
      have h1 := val_good hy he
      simp only [evalOp] at hev
      have hconv : ∀ s p l c, a.eval x = .slice p l c → (Conv.bytesToString (.slice p l c)).run C.P w = .ok (.string s) w → (execOp a.eval o).run C.P w = .ok (.value (.string s)) w := by
        intro s p l c eu h4
        simp only [execOp, ho, convert, Sem.run_bind, hr1, hr2, Result.andThen_ok, eu]
        simp only [hr3, Result.andThen_ok, h4, Sem.run_pure]
      split at hev
      · rename_i e1
        cases hev
        rw [e1] at h1
        simp only [VR] at h1
        exact Good.pure hr (by simp only [VR]; exact ⟨ByteArray.empty, rfl, rfl⟩) (hconv ByteArray.empty _ _ _ h1 rfl)
      · rename_i b off len cap e1
        rw [e1] at h1
        split at hev
        · rename_i cs sp hb
          split at hev
          · rename_i vs hvs
            split at hev
            · rename_i str hstr
              cases hev
              obtain ⟨h2, h3⟩ := bytesOf_eq hstr
              obtain ⟨p, c, us, h4, _, h5, h6, h7⟩ := slice_read (C := C) (size := 1) hr h1 hb (by simpa using hvs)
              rw [h2] at h5
              have h8 := VRs.ints h5
              subst h8
              have h9 := run_bytesToString (P := C.P) w p len c (str.map Int.ofNat) (by simpa using h7)
              refine Good.pure hr ?_ (hconv _ _ _ _ h4 h9)
              simp only [VR]
              refine ⟨_, rfl, ?_⟩
              rw [foldl_push]
              have := str_of_nat h3
              simpa using this.symm
            · cases hev
          · cases hev
        · rename_i n hb
          split at hev
          · rename_i hle
            cases hev
            have hle := Nat.le_of_ble_eq_true hle
            obtain ⟨l0, hl0, c0, e0, h2, h3⟩ := hr.live b _ hb
            have key : ∃ l p c, ρ b = some l ∧ a.eval x = .slice (some p) len c ∧ len ≤ c ∧ (0 < c → p = l.at off) := by
              cases cap <;> simp only [VR] at h1
              · obtain ⟨l, h1, p, c, h2, h3, h4⟩ := h1; exact ⟨l, p, c, h1, h2, h3, fun h => (h4 h).1⟩
              · obtain ⟨l, h1, p, h2, h3, h4⟩ := h1; exact ⟨l, p, _, h1, h2, h3, h4⟩
            obtain ⟨l, p, c, h4, h5, h6, h7⟩ := key
            rw [hl0] at h4
            cases h4
            have h8 : (loadCells p len).run C.P w = .ok ((List.replicate len (0 : Int)).map (Value.int .u8)).toArray w := by
              by_cases hz : len = 0
              · subst hz; simp [loadCells, loadCellsFrom]
              · have := run_loadCells_list (P := C.P) w p ((List.replicate len (0 : Int)).map (Value.int .u8)) (by
                  intro j z hj
                  have hj1 : j < len := by
                    have := (List.getElem?_eq_some_iff.1 hj).1
                    simpa using this
                  obtain ⟨z', h9, h10⟩ := h3 (off + j) (by omega)
                  simp only [VR] at h10
                  rw [h7 (by omega), Loc.at_add, cell_of_row h2, h9, h10]
                  simp [hj1] at hj
                  rw [← hj]
                  rfl)
                simpa using this
            have h9 := run_bytesToString (P := C.P) w p len c (List.replicate len (0 : Int)) h8
            refine Good.pure hr ?_ (hconv _ _ _ _ h5 h9)
            simp only [VR]
            refine ⟨_, rfl, ?_⟩
            rw [foldl_push]
            simp
          · cases hev
        · cases hev
      · cases hev
    · cases ht
  · cases ht

end
end Go.Am

namespace Go.Am
section
variable {C : Cx} {ρ : Map} {h h' : Heap} {F : Nat → Option FObj} {w : World} {env : Env} {a : Act} {r : Rec} {o : Oper} {ao : AOp} {v : AV}

def EqK.key : EqK → Bool
  | .int | .bool | .str => true
  | _ => false

theorem same_true {q : EqK} (hq : q.key = true) {x y : AV} (h : same q x y = some true) : x = y := by
  cases q <;> simp [EqK.key] at hq <;> cases x <;> cases y <;> simp only [same, reduceCtorEq, Option.some.injEq] at h
  case int.int.int =>
    split at h
    · rename_i e
      rw [eqI_eq] at h
      simp at h
      rw [eqKind_eq e, h]
    · cases h
  case bool.bool.bool => rw [eqBool_eq] at h; simp at h; rw [h]
  case str.str.str => rw [eqStr_eq] at h; simp at h; rw [h]

theorem eqKind_comm (j k : IntKind) : eqKind j k = eqKind k j := by cases j <;> cases k <;> rfl

theorem same_comm {q : EqK} (hq : q.key = true) {x y : AV} {b : Bool} (h : same q x y = some b) : same q y x = some b := by
  cases q <;> simp [EqK.key] at hq <;> cases x <;> cases y <;> simp only [same, reduceCtorEq, Option.some.injEq] at h ⊢
  case int.int.int =>
    rw [eqKind_comm]
    split at h
    · rw [eqI_eq] at h ⊢
      rw [← h, Bool.beq_comm]
    · cases h
  case bool.bool.bool => rw [eqBool_eq] at h ⊢; rw [← h, Bool.beq_comm]
  case str.str.str => rw [eqStr_eq] at h ⊢; rw [← h, Bool.beq_comm]

/-- A key's type and how it is compared. -/
def KeyD (q : EqK) (d : TypeDesc) : Prop := (q = .int ∧ ∃ k, d = .int k) ∨ (q = .bool ∧ d = .bool) ∨ (q = .str ∧ d = .string)

theorem keyK_inv {ty : TypeId → Option TI} {t : TypeId} {q : EqK} (h : keyK ty t = some q) : q.key = true ∧ ∃ d, under ty t = some d ∧ KeyD q d := by
  unfold keyK at h
  split at h
  · rename_i k e; cases h; exact ⟨rfl, _, e, .inl ⟨rfl, k, rfl⟩⟩
  · rename_i e; cases h; exact ⟨rfl, _, e, .inr (.inl ⟨rfl, rfl⟩)⟩
  · rename_i e; cases h; exact ⟨rfl, _, e, .inr (.inr ⟨rfl, rfl⟩)⟩
  · cases h

theorem sameNow_of {q : EqK} {d : TypeDesc} (hd : KeyD q d) {x y : AV} {u z : Value} {b : Bool} (h : same q x y = some b) (hx : VR ρ x u) (hy : VR ρ y z) :
    Instr.sameNow d u z = some b ∧ (b = true → Instr.sameBits 10000 u z = true) := by
  rcases hd with ⟨rfl, k, rfl⟩ | ⟨rfl, rfl⟩ | ⟨rfl, rfl⟩ <;> cases x <;> cases y <;> simp only [same, reduceCtorEq, Option.some.injEq] at h
  · split at h
    · rename_i e
      have e := eqKind_eq e
      subst e
      cases h
      simp only [VR] at hx hy
      subst hx; subst hy
      rw [eqI_eq]
      exact ⟨by simp [Instr.sameNow], fun hb => by simpa [Instr.sameBits] using hb⟩
    · cases h
  · subst h
    simp only [VR] at hx hy
    subst hx; subst hy
    rw [eqBool_eq]
    exact ⟨by simp [Instr.sameNow], fun hb => by simpa [Instr.sameBits] using hb⟩
  · simp only [VR] at hx hy
    obtain ⟨s1, rfl, h1⟩ := hx
    obtain ⟨s2, rfl, h2⟩ := hy
    have h3 := str_eq h1 h2
    have h4 : (s1 == s2) = b := by
      rw [← h, h3]
      by_cases e : s1 = s2
      · subst e
        have : (s1 == s1) = true := by
          show (s1.data == s1.data) = true
          exact beq_self_eq_true _
        rw [this]; simp
      · have h5 : s1.toList ≠ s2.toList := by
          rw [Lib.toList_data, Lib.toList_data]
          intro e2
          apply e
          cases s1; cases s2
          simp at e2
          rw [e2]
        have h6 : (s1 == s2) = false := by
          show (s1.data == s2.data) = false
          rw [beq_eq_false_iff_ne]
          intro e2
          apply e
          cases s1; cases s2
          simp at e2
          rw [e2]
        rw [h6]
        symm
        rw [beq_eq_false_iff_ne]
        exact h5
    exact ⟨by simp [Instr.sameNow, h4], fun hb => by simpa [Instr.sameBits, hb] using h4⟩

theorem run_checkKey {P : Program} {q : EqK} {d : TypeDesc} (hd : KeyD q d) {t : TypeId} (hu : (underlying t).run P w = .ok d w) (e : Bool) (u : Value) :
    (Instr.checkKey e 10000 t u).run P w = .ok () w := by
  rcases hd with ⟨rfl, k, rfl⟩ | ⟨rfl, rfl⟩ | ⟨rfl, rfl⟩ <;> (unfold Instr.checkKey; simp only [Sem.run_bind, hu, Result.andThen_ok]; cases u <;> rfl)

theorem findNow_none (d : TypeDesc) (k : Value) : ∀ (l : List MapEntry) (i : Nat), (∀ e ∈ l, Instr.sameNow d k e.key = some false) → Instr.findNow d k l i = some none
  | [], _, _ => rfl
  | e :: l, i, h => by
    simp only [Instr.findNow, h e (by simp)]
    exact findNow_none d k l (i + 1) (fun x hx => h x (by simp [hx]))

theorem findNow_found (d : TypeDesc) (k : Value) (e : MapEntry) (l2 : List MapEntry) (he : Instr.sameNow d k e.key = some true) : ∀ (l1 : List MapEntry) (i : Nat), (∀ x ∈ l1, Instr.sameNow d k x.key = some false) →
    Instr.findNow d k (l1 ++ e :: l2) i = some (some (i + l1.length, e.val))
  | [], i, _ => by simp [Instr.findNow, he]
  | x :: l1, i, h => by
    simp only [List.cons_append, Instr.findNow, h x (by simp)]
    rw [findNow_found d k e l2 he l1 (i + 1) (fun y hy => h y (by simp [hy]))]
    simp
    omega

theorem EntR.length : ∀ {es : List (AV × AV)} {l : List MapEntry}, EntR ρ es l → l.length = es.length
  | [], l, h => by simp only [EntR] at h; simp [h]
  | (k, v) :: es, l, h => by
    simp only [EntR] at h
    obtain ⟨e, l', rfl, _, _, h3⟩ := h
    simp [h3.length]

/-- What a look for a key finds: nothing, none of the keys is it; or just one entry, at whose sides no key is it. -/
theorem findKey_inv {q : EqK} (hq : q.key = true) (k : AV) : ∀ {es : List (AV × AV)} {res : Option AV}, Apart q es → findKey q k es = some res →
    (res = none ∧ ∀ x ∈ es, same q k x.1 = some false) ∨ (∃ v es1 k' es2, res = some v ∧ es = es1 ++ (k', v) :: es2 ∧ same q k k' = some true ∧ ∀ x ∈ es1 ++ es2, same q k x.1 = some false)
  | [], res, _, h => by simp only [findKey, Option.some.injEq] at h; exact .inl ⟨h.symm, by simp⟩
  | (k', v) :: es, res, ha, h => by
    simp only [findKey] at h
    obtain ⟨ha1, ha2⟩ := ha
    split at h
    · rename_i e
      cases h
      refine .inr ⟨v, [], k', es, rfl, rfl, e, ?_⟩
      intro x hx
      rw [same_true hq e]
      exact ha1 x (by simpa using hx)
    · rename_i e
      rcases findKey_inv hq k ha2 h with ⟨h1, h2⟩ | ⟨v', es1, k1, es2, h1, h2, h3, h4⟩
      · refine .inl ⟨h1, ?_⟩
        intro x hx
        cases hx with
        | head => exact e
        | tail _ hx => exact h2 x hx
      · refine .inr ⟨v', (k', v) :: es1, k1, es2, h1, by rw [h2]; rfl, h3, ?_⟩
        intro x hx
        cases hx with
        | head => exact e
        | tail _ hx => exact h4 x hx
    · cases h

theorem EntR.split : ∀ {es1 : List (AV × AV)} {k v : AV} {es2 : List (AV × AV)} {l : List MapEntry}, EntR ρ (es1 ++ (k, v) :: es2) l →
    ∃ l1 e l2, l = l1 ++ e :: l2 ∧ EntR ρ es1 l1 ∧ VR ρ k e.key ∧ VR ρ v e.val ∧ EntR ρ es2 l2
  | [], k, v, es2, l, h => by
    simp only [List.nil_append, EntR] at h
    obtain ⟨e, l', rfl, h1, h2, h3⟩ := h
    exact ⟨[], e, l', rfl, by simp [EntR], h1, h2, h3⟩
  | (k', v') :: es1, k, v, es2, l, h => by
    simp only [List.cons_append, EntR] at h
    obtain ⟨e, l', rfl, h1, h2, h3⟩ := h
    obtain ⟨l1, e', l2, rfl, h4, h5, h6, h7⟩ := EntR.split h3
    exact ⟨e :: l1, e', l2, rfl, by simp only [EntR]; exact ⟨e, l1, rfl, h1, h2, h4⟩, h5, h6, h7⟩

theorem EntR.join : ∀ {es1 : List (AV × AV)} {es2 : List (AV × AV)} {l1 l2 : List MapEntry}, EntR ρ es1 l1 → EntR ρ es2 l2 → EntR ρ (es1 ++ es2) (l1 ++ l2)
  | [], es2, l1, l2, h, h' => by simp only [EntR] at h; subst h; simpa using h'
  | (k, v) :: es1, es2, l1, l2, h, h' => by
    simp only [EntR] at h
    obtain ⟨e, l', rfl, h1, h2, h3⟩ := h
    simp only [List.cons_append, EntR]
    exact ⟨e, l' ++ l2, rfl, h1, h2, h3.join h'⟩

theorem EntR.mem : ∀ {es : List (AV × AV)} {l : List MapEntry}, EntR ρ es l → ∀ e ∈ l, ∃ x ∈ es, VR ρ x.1 e.key ∧ VR ρ x.2 e.val
  | [], l, h, e, he => by simp only [EntR] at h; subst h; cases he
  | (k, v) :: es, l, h, e, he => by
    simp only [EntR] at h
    obtain ⟨e', l', rfl, h1, h2, h3⟩ := h
    cases he with
    | head => exact ⟨(k, v), by simp, h1, h2⟩
    | tail _ he =>
      obtain ⟨x, hx, h4⟩ := h3.mem e he
      exact ⟨x, by simp [hx], h4⟩

/-- The same in the program's memory. -/
theorem find_real {q : EqK} (hq : q.key = true) {d : TypeDesc} (hd : KeyD q d) {k : AV} {u : Value} (hk : VR ρ k u) {es : List (AV × AV)} {L l : List MapEntry} (hp : L.Perm l) (he : EntR ρ es L) (ha : Apart q es)
    {res : Option AV} (hf : findKey q k es = some res) :
    (res = none ∧ (∀ x ∈ es, same q k x.1 = some false) ∧ Instr.findNow d u l 0 = some none) ∨
    (∃ v es1 k' es2 L1 L2 l1 e l2, res = some v ∧ es = es1 ++ (k', v) :: es2 ∧ same q k k' = some true ∧ (∀ x ∈ es1 ++ es2, same q k x.1 = some false) ∧ L = L1 ++ e :: L2 ∧ EntR ρ es1 L1 ∧ EntR ρ es2 L2 ∧ VR ρ k' e.key ∧ VR ρ v e.val ∧
      l = l1 ++ e :: l2 ∧ (L1 ++ L2).Perm (l1 ++ l2) ∧ Instr.findNow d u l 0 = some (some (l1.length, e.val))) := by
  rcases findKey_inv hq k ha hf with ⟨h1, h2⟩ | ⟨v, es1, k', es2, h1, h2, h3, h4⟩
  · refine .inl ⟨h1, h2, findNow_none d u l 0 ?_⟩
    intro e hm
    obtain ⟨x, hx, h5, _⟩ := he.mem e (hp.mem_iff.2 hm)
    exact (sameNow_of hd (h2 x hx) hk h5).1
  · subst h2
    obtain ⟨L1, e, L2, rfl, h5, h6, h7, h8⟩ := he.split
    have hm : e ∈ l := hp.mem_iff.1 (by simp)
    obtain ⟨l1, l2, rfl⟩ := List.append_of_mem hm
    have hperm : (L1 ++ L2).Perm (l1 ++ l2) := by
      have h9 : (e :: (L1 ++ L2)).Perm (e :: (l1 ++ l2)) := (List.perm_middle.symm.trans hp).trans List.perm_middle
      exact h9.cons_inv
    refine .inr ⟨v, es1, k', es2, L1, L2, l1, e, l2, h1, rfl, h3, h4, rfl, h5, h8, h6, h7, rfl, hperm, ?_⟩
    have := findNow_found d u e l2 (sameNow_of hd h3 hk h6).1 l1 0 (by
      intro x hx
      have hx2 : x ∈ L1 ++ L2 := hperm.mem_iff.2 (by simp [hx])
      obtain ⟨y, hy, h9, _⟩ := (h5.join h8).mem x hx2
      exact (sameNow_of hd (h4 y hy) hk h9).1)
    simpa using this

theorem run_findKey {P : Program} {d : TypeDesc} {t : TypeId} (hu : (underlying t).run P w = .ok d w) {u : Value} {l : List MapEntry} {res : Option (Nat × Value)} (h : Instr.findNow d u l 0 = some res) :
    (Instr.findKey t u l).run P w = .ok res w := by
  simp only [Instr.findKey, Sem.run_bind, hu, Result.andThen_ok, h]
  rfl

variable (ok : C.OK) (hr : HR C ρ h F w) (he : ER ρ env.tmps a.tmps) (hf : Fr ρ h.next h'.next) (ht : trOp C.ty C.ib o = some ao) (hev : evalOp r env h ao = .ok v h')

theorem HR.mapAt (hr : HR C ρ h F w) {b : Pos} {q : EqK} {es : List (AV × AV)} {l : Loc} (hb : PT.get b h.t = some (.map q es)) (hl : ρ b = some l) :
    ∃ es' clock L, w.heap[l.block]? = some (.map es' clock) ∧ L.Perm es'.toList ∧ EntR ρ es L ∧ Apart q es := by
  obtain ⟨k, h1, h2⟩ := hr.live b _ hb
  rw [hl] at h1
  cases h1
  exact h2

theorem eqEqK_eq {a b : EqK} (h : eqEqK a b = true) : a = b := by cases a <;> cases b <;> first | rfl | (simp [eqEqK] at h)

theorem run_getObj_map {P : Program} {b : Nat} {es : Array MapEntry} {clock : Nat} (h : w.heap[b]? = some (.map es clock)) : (getObj b).run P w = .ok (.map es clock) w := by
  simp [getObj, Sem.run, h]

include ok hr he ht hev in
theorem good_lookup {t : TypeId} {x y : Operand} {c : Bool} (ho : o.op = .lookup t x y c) : Good C ρ h F w v h' ((execOp a.eval o).run C.P w) := by
  simp [trOp, ho, Option.bind_eq_some_iff] at ht
  obtain ⟨d, hd, ht⟩ := ht
  have hrun := run_under ok hd w
  cases d <;> simp [Option.bind_eq_some_iff] at ht
  rename_i kt e
  obtain ⟨i, hi, q, hq, z, hz, x', hx, y', hy, rfl⟩ := ht
  obtain ⟨hqk, dk, hdk, hkd⟩ := keyK_inv hq
  have hrk := run_under ok hdk w
  have h1 := val_good hx he
  have h2 := val_good hy he
  obtain ⟨u, hu1, hu2⟩ := run_zero ok hi hz w
  have hu3 := ofVal_good ρ u z hu2
  have hres : ∀ (x1 : AV) (u1 : Value) (b : Bool), VR ρ x1 u1 → VR ρ (withOk c x1 b) (if c then .tuple #[u1, .bool b] else u1) := by
    intro x1 u1 b h3
    cases c
    · exact h3
    · simp only [if_true]
      exact ⟨[u1, .bool b], rfl, VRs.cons h3 (VRs.cons VR.bool VRs.nil)⟩
  simp only [evalOp] at hev
  split at hev
  · rename_i e1
    rw [e1] at h1
    simp only [VR] at h1
    cases hev
    refine Good.pure hr (hres z u false hu3) ?_
    have h5 := run_checkKey (P := C.P) hkd hrk true (a.eval y)
    have h6 := run_findKey (P := C.P) hrk (u := a.eval y) (l := []) (res := none) rfl
    simp only [execOp, ho, Instr.lookup, Sem.run_bind, hrun, Result.andThen_ok, h1, Sem.run_pure]
    simp only [show (#[] : Array MapEntry).isEmpty = true from rfl, h5, Result.andThen_ok, h6, hu1, Sem.run_bind, Sem.run_pure]
  · rename_i b e1
    rw [e1] at h1
    simp only [VR] at h1
    obtain ⟨l, hl, hx'⟩ := h1
    split at hev
    · rename_i q' es hb
      obtain ⟨es', clock, L, h3, h4, h5, h6⟩ := hr.mapAt hb hl
      have hget := run_getObj_map (P := C.P) h3
      have hck := run_checkKey (P := C.P) hkd hrk es'.isEmpty (a.eval y)
      split at hev
      · rename_i x1 hq' hfind
        have := eqEqK_eq hq'
        subst this
        cases hev
        rcases find_real hqk hkd h2 h4 h5 h6 hfind with ⟨h7, _⟩ | ⟨v1, es1, k', es2, L1, L2, l1, e1, l2, h7, _, _, _, _, _, _, _, h8, _, _, h9⟩
        · cases h7
        · cases h7
          refine Good.pure hr (hres _ _ true h8) ?_
          have hfk := run_findKey (P := C.P) hrk h9
          simp only [execOp, ho, Instr.lookup, Sem.run_bind, hrun, Result.andThen_ok, hx', hget, Sem.run_pure, hck, hfk]
      · rename_i hq' hfind
        have := eqEqK_eq hq'
        subst this
        cases hev
        rcases find_real hqk hkd h2 h4 h5 h6 hfind with ⟨_, _, h9⟩ | ⟨v1, es1, k', es2, L1, L2, l1, e1, l2, h7, _⟩
        · refine Good.pure hr (hres _ _ false hu3) ?_
          have hfk := run_findKey (P := C.P) hrk h9
          simp only [execOp, ho, Instr.lookup, Sem.run_bind, hrun, Result.andThen_ok, hx', hget, Sem.run_pure, hck, hfk, hu1]
        · cases h7
      · cases hev
    · cases hev
  · cases hev

theorem findKey_of_setKey {q : EqK} {k v : AV} : ∀ {es es' : List (AV × AV)}, setKey q k v es = some es' → ∃ res, findKey q k es = some res
  | [], es', _ => ⟨none, rfl⟩
  | (k', v') :: es, es', h => by
    simp only [setKey] at h
    split at h
    · rename_i e; exact ⟨some v', by simp [findKey, e]⟩
    · rename_i e
      split at h
      · rename_i r hr
        obtain ⟨res, h1⟩ := findKey_of_setKey hr
        exact ⟨res, by simp [findKey, e, h1]⟩
      · cases h
    · cases h

theorem setKey_new {q : EqK} {k v : AV} : ∀ {es es' : List (AV × AV)}, (∀ x ∈ es, same q k x.1 = some false) → setKey q k v es = some es' → es' = es ++ [(k, v)]
  | [], es', _, h => by simp only [setKey, Option.some.injEq] at h; rw [← h]; rfl
  | (k', v') :: es, es', hn, h => by
    simp only [setKey, hn (k', v') (by simp)] at h
    split at h
    · rename_i r hr
      cases h
      rw [setKey_new (fun x hx => hn x (by simp [hx])) hr]
      rfl
    · cases h

theorem setKey_old {q : EqK} {k v : AV} {k' v' : AV} {es2 : List (AV × AV)} (hk : same q k k' = some true) : ∀ {es1 es' : List (AV × AV)}, (∀ x ∈ es1, same q k x.1 = some false) → setKey q k v (es1 ++ (k', v') :: es2) = some es' → es' = es1 ++ (k', v) :: es2
  | [], es', _, h => by
    simp only [List.nil_append, setKey, hk, Option.some.injEq] at h
    rw [← h]; rfl
  | (k1, v1) :: es1, es', hn, h => by
    simp only [List.cons_append, setKey, hn (k1, v1) (by simp)] at h
    split at h
    · rename_i r hr
      cases h
      rw [setKey_old hk (fun x hx => hn x (by simp [hx])) hr]
      rfl
    · cases h

theorem Apart.snoc {q : EqK} {k v : AV} (hq : q.key = true) : ∀ {es : List (AV × AV)}, Apart q es → (∀ x ∈ es, same q k x.1 = some false) → Apart q (es ++ [(k, v)])
  | [], _, _ => by simp [Apart]
  | (k', v') :: es, h, hn => by
    obtain ⟨h1, h2⟩ := h
    refine ⟨?_, Apart.snoc hq h2 (fun x hx => hn x (by simp [hx]))⟩
    intro x hx
    rcases List.mem_append.1 hx with hx | hx
    · exact h1 x hx
    · simp at hx
      subst hx
      exact same_comm hq (hn (k', v') (by simp))

theorem Apart.put {q : EqK} {k' v v' : AV} {es2 : List (AV × AV)} : ∀ {es1 : List (AV × AV)}, Apart q (es1 ++ (k', v') :: es2) → Apart q (es1 ++ (k', v) :: es2)
  | [], h => h
  | (k1, v1) :: es1, h => by
    obtain ⟨h1, h2⟩ := h
    refine ⟨?_, Apart.put h2⟩
    intro x hx
    rcases List.mem_append.1 hx with hx | hx
    · exact h1 x (List.mem_append.2 (.inl hx))
    · cases hx with
      | head => exact h1 (k', v') (by simp)
      | tail _ hx => exact h1 x (List.mem_append.2 (.inr (List.mem_cons_of_mem _ hx)))

theorem Apart.del {q : EqK} {k' v' : AV} {es2 : List (AV × AV)} : ∀ {es1 : List (AV × AV)}, Apart q (es1 ++ (k', v') :: es2) → Apart q (es1 ++ es2)
  | [], h => h.2
  | (k1, v1) :: es1, h => by
    obtain ⟨h1, h2⟩ := h
    refine ⟨fun x hx => h1 x ?_, Apart.del h2⟩
    rcases List.mem_append.1 hx with hx | hx
    · exact List.mem_append.2 (.inl hx)
    · exact List.mem_append.2 (.inr (List.mem_cons_of_mem _ hx))

/-- A map is otherwise. -/
theorem HR.setMap (hr : HR C ρ h F w) {b : Pos} {o : AObj} {l : Loc} (hb : PT.get b h.t = some o) (hl : ρ b = some l) {es' : Array MapEntry} {clock : Nat} {es : List (AV × AV)} {L : List MapEntry} {q : EqK}
    {esOld : Array MapEntry} {cOld : Nat} (hm : w.heap[l.block]? = some (.map esOld cOld)) (hp : L.Perm es'.toList) (hE : EntR ρ es L) (hA : Apart q es) :
    (setObj l.block (.map es' clock)).run C.P w = .ok () { w with heap := w.heap.setIfInBounds l.block (.map es' clock) } ∧
    HR C ρ ⟨PT.set b (.map q es) h.t, h.next⟩ F { w with heap := w.heap.setIfInBounds l.block (.map es' clock) } ∧ Same w { w with heap := w.heap.setIfInBounds l.block (.map es' clock) } := by
  refine ⟨by simp [setObj, Sem.run, hm], ?_, ⟨rfl, rfl, rfl, by simp⟩⟩
  have hne : ∀ cs, o ≠ .cells cs none := by
    rintro cs rfl
    obtain ⟨k, h1, c, e, ⟨z, h2, _⟩, _⟩ := hr.live b _ hb
    rw [hl] at h1
    cases h1
    rw [hm] at h2
    cases h2
  refine hr.update hb hl (fun c hc => ?_) ⟨es', clock, L, ?_, hp, hE, hA⟩ (FObj.whole hne)
  · simp [Ne.symm hc]
  · have := (Array.getElem?_eq_some_iff.1 hm).1
    simp [this]

theorem modify_mid {α : Type} (f : α → α) (e : α) (l2 : List α) : ∀ l1 : List α, (l1 ++ e :: l2).modify l1.length f = l1 ++ f e :: l2
  | [] => by simp
  | x :: l1 => by simp [modify_mid f e l2 l1]

include ok hr he ht hev in
theorem good_insert {t : TypeId} {m x y : Operand} (ho : o.op = .insert t m x y ∨ o.op = .mapUpdate t m x y) : Good C ρ h F w v h' ((execOp a.eval o).run C.P w) := by
  have ht' : ∃ d, under C.ty t = some d ∧ ∃ kt e, d = .map kt e ∧ ∃ q, keyK C.ty kt = some q ∧ ∃ m', trArg m = some m' ∧ ∃ x', trArg x = some x' ∧ ∃ y', trArg y = some y' ∧ ao = .insert q m' x' y' := by
    rcases ho with ho | ho
    all_goals
      simp [trOp, ho, Option.bind_eq_some_iff] at ht
      obtain ⟨d, hd, ht⟩ := ht
      cases d <;> simp [Option.bind_eq_some_iff] at ht
      obtain ⟨q, hq, m', hm, x', hx, y', hy, rfl⟩ := ht
      exact ⟨_, hd, _, _, rfl, q, hq, m', hm, x', hx, y', hy, rfl⟩
  obtain ⟨_, hd, kt, e, rfl, q, hq, m', hm, x', hx, y', hy, rfl⟩ := ht'
  have hexec : (execOp a.eval o).run C.P w = ((Instr.mapUpdate t (a.eval m) (a.eval x) (a.eval y)).run C.P w).andThen fun _ w' => .ok .skip w' := by
    rcases ho with ho | ho <;> simp [execOp, ho]
  have hrun := run_under ok hd w
  obtain ⟨hqk, dk, hdk, hkd⟩ := keyK_inv hq
  have hrk := run_under ok hdk w
  have h0 := val_good hm he
  have h1 := val_good hx he
  have h2 := val_good hy he
  simp only [evalOp] at hev
  split at hev
  · rename_i b e1
    rw [e1] at h0
    simp only [VR] at h0
    obtain ⟨l, hl, hx'⟩ := h0
    split at hev
    · rename_i q' es hb
      split at hev
      · rename_i esn hq' hset
        have := eqEqK_eq hq'
        subst this
        cases hev
        obtain ⟨es', clock, L, h3, h4, h5, h6⟩ := hr.mapAt hb hl
        have hget := run_getObj_map (P := C.P) h3
        have hck := run_checkKey (P := C.P) hkd hrk false (a.eval x)
        obtain ⟨res, hfind⟩ := findKey_of_setKey hset
        rcases find_real hqk hkd h1 h4 h5 h6 hfind with ⟨_, h8, h9⟩ | ⟨v1, es1, k', es2, L1, L2, l1, e1, l2, _, h8, h10, h11, h12, h13, h14, h15, h16, h17, h18, h9⟩
        · have hfk := run_findKey (P := C.P) hrk h9
          have hesn := setKey_new h8 hset
          subst hesn
          obtain ⟨g1, g2, g3⟩ := hr.setMap hb hl (es' := es'.push { key := a.eval x, val := a.eval y, born := clock }) (clock := clock + 1) (L := L ++ [{ key := a.eval x, val := a.eval y, born := clock }]) h3
            (by rw [Array.toList_push]; exact h4.append (List.Perm.refl _)) (h5.join (by simp only [EntR]; exact ⟨_, [], rfl, h1, h2, rfl⟩)) (h6.snoc hqk h8)
          refine ⟨ρ, undef, _, Out.refl _ _ _, Nat.le_refl _, VR.none, g2, g3, .inr ⟨?_, rfl⟩⟩
          rw [hexec, hx']
          simp only [Instr.mapUpdate, Sem.run_bind, hrun, Result.andThen_ok, hget, hck, hfk, g1]
        · have hfk := run_findKey (P := C.P) hrk h9
          subst h8
          have hesn := setKey_old h10 (fun z hz => h11 z (by simp [hz])) hset
          subst hesn
          subst h12
          have hes' : es'[l1.length]? = some e1 := by rw [← Array.getElem?_toList, h17]; simp
          have hmod : (es'.modify l1.length fun z => { z with key := a.eval x, val := a.eval y }).toList = l1 ++ { e1 with key := a.eval x, val := a.eval y } :: l2 := by
            rw [Array.toList_modify, h17, modify_mid]
          have hkk := same_true hqk h10
          obtain ⟨g1, g2, g3⟩ := hr.setMap hb hl (es' := es'.modify l1.length fun z => { z with key := a.eval x, val := a.eval y }) (clock := clock) (L := L1 ++ { e1 with key := a.eval x, val := a.eval y } :: L2) h3
            (by rw [hmod]; exact List.perm_middle.trans ((List.Perm.cons _ h18).trans List.perm_middle.symm))
            (h13.join (by simp only [EntR]; exact ⟨_, L2, rfl, by rw [← hkk]; exact h1, h2, h14⟩)) h6.put
          refine ⟨ρ, undef, _, Out.refl _ _ _, Nat.le_refl _, VR.none, g2, g3, .inr ⟨?_, rfl⟩⟩
          rw [hexec, hx']
          have hbits := (sameNow_of hkd (same_comm hqk h10) h15 h1).2 rfl
          have hstay : (Instr.keyThatStays e1.key (a.eval x)).run C.P w = .ok (a.eval x) w := by simp [Instr.keyThatStays, hbits]
          simp only [Instr.mapUpdate, Sem.run_bind, hrun, Result.andThen_ok, hget, hck, hfk, hes', Option.map_some, Option.getD_some, hstay, g1]
      · cases hev
    · cases hev
  · cases hev

theorem findKey_of_delKey {q : EqK} {k : AV} : ∀ {es es' : List (AV × AV)}, delKey q k es = some es' → ∃ res, findKey q k es = some res
  | [], es', _ => ⟨none, rfl⟩
  | (k', v') :: es, es', h => by
    simp only [delKey] at h
    split at h
    · rename_i e; exact ⟨some v', by simp [findKey, e]⟩
    · rename_i e
      split at h
      · rename_i r hr
        obtain ⟨res, h1⟩ := findKey_of_delKey hr
        exact ⟨res, by simp [findKey, e, h1]⟩
      · cases h
    · cases h

theorem delKey_none {q : EqK} {k : AV} : ∀ {es es' : List (AV × AV)}, (∀ x ∈ es, same q k x.1 = some false) → delKey q k es = some es' → es' = es
  | [], es', _, h => by simp only [delKey, Option.some.injEq] at h; exact h.symm
  | (k', v') :: es, es', hn, h => by
    simp only [delKey, hn (k', v') (by simp)] at h
    split at h
    · rename_i r hr
      cases h
      rw [delKey_none (fun x hx => hn x (by simp [hx])) hr]
    · cases h

theorem delKey_old {q : EqK} {k : AV} {k' v' : AV} {es2 : List (AV × AV)} (hk : same q k k' = some true) : ∀ {es1 es' : List (AV × AV)}, (∀ x ∈ es1, same q k x.1 = some false) → delKey q k (es1 ++ (k', v') :: es2) = some es' → es' = es1 ++ es2
  | [], es', _, h => by
    simp only [List.nil_append, delKey, hk, Option.some.injEq] at h
    rw [← h]; rfl
  | (k1, v1) :: es1, es', hn, h => by
    simp only [List.cons_append, delKey, hn (k1, v1) (by simp)] at h
    split at h
    · rename_i r hr
      cases h
      rw [delKey_old hk (fun x hx => hn x (by simp [hx])) hr]
      rfl
    · cases h

end
end Go.Am

