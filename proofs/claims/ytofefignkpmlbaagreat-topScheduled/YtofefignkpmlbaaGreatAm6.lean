/- An abstract machine for Go code and its soundness over the model; no condition of its own. Used by the proof that the law TopScheduled returns true at every input. -/
import Derived.Test.YtofefignkpmlbaaGreatAm5
namespace Go.Am
section
variable {C : Cx} {ρ : Map} {h h' : Heap} {F : Nat → Option FObj} {w : World} {env : Env} {a : Act} {r : Rec} {o : Oper} {ao : AOp} {v : AV}
variable (ok : C.OK) (hr : HR C ρ h F w) (he : ER ρ env.tmps a.tmps) (hf : Fr ρ h.next h'.next) (hev : evalOp r env h ao = .ok v h')

theorem takeX_all : ∀ l : List AV, takeX l l.length = some l
  | [] => rfl
  | x :: l => by simp [takeX, takeX_all l]

/-- The cells that are read out of a slice. -/
theorem src_read {size n : Nat} {y : AV} {u : Value} {new : List AV} (hr : HR C ρ h F w) (hv : VR ρ y u) (hn : lenOfSlice y = some n) (hc : cellsOfSlice size h y = some new) :
    ∃ p c vs, u = .slice p n c ∧ VRs ρ new vs ∧ vs.length = n * size ∧ ∀ w' : World, w'.heap = w.heap → (Builtin.firstCells size n u).run C.P w' = .ok vs.toArray w' := by
  cases y <;> simp only [lenOfSlice, reduceCtorEq, Option.some.injEq] at hn
  · subst hn
    simp only [cellsOfSlice, Option.some.injEq] at hc
    subst hc
    simp only [VR] at hv
    subst hv
    exact ⟨none, 0, [], rfl, VRs.nil, by simp, fun _ _ => rfl⟩
  · subst hn
    rename_i b off len cap
    simp only [cellsOfSlice] at hc
    split at hc
    · rename_i cs sp hb
      obtain ⟨p, c, vs, h1, h2, h3, h4, h5⟩ := slice_read' (C := C) hr hv hb hc
      subst h1
      exact ⟨some p, c, vs, rfl, h3, h4, h5⟩
    · cases hc

theorem growBy_le (n c : Nat) : Builtin.growBy n 4 c ≤ 3 * c + 4096 := by
  simp only [Builtin.growBy]
  repeat' split
  all_goals omega

theorem next_le {n c : Nat} (h : c < n) : Builtin.nextslicecap n c ≤ 3 * n + 4096 := by
  unfold Builtin.nextslicecap
  split
  · omega
  · split
    · omega
    · have := growBy_le n c; omega

theorem cut_append {need old : Nat} {e : TypeId} {t : Nat} : need ≤ (Question.appendCap need old e).cut t := by
  simp only [Question.cut]
  omega

theorem zeroCells_size (zero : Array Value) (n : Nat) : (Builtin.zeroCells zero n).size = n * zero.size := by simp [Builtin.zeroCells]

/-- An append in whose way a new block is made. -/
theorem run_grow (ok : C.OK) {t ty2 e e2 rt : TypeId} {i : TI} {z : List AV} (hi : C.ty e = some i) (hz : zeroCells C.ty e = some z) (hzl : z.length = i.size) (hb : i.bytes ≤ 65536) (hb0 : 0 < i.bytes)
    (hu : under C.ty t = some (.slice e)) (hu2 : under C.ty ty2 = some (.slice e2)) {ats : Array TypeId} (h0 : ats[0]? = some t) (h1 : ats[1]? = some ty2)
    {p : Option Addr} {l c n : Nat} {y : Value} (hg : c < l + n) (hmost : l + n ≤ growMost) {olds vs : List Value}
    (hlen : ∀ w : World, (Builtin.lenOf y).run C.P w = .ok n w)
    (hold : ∀ w' : World, w'.heap = w.heap → (Builtin.firstCells i.size l (.slice p l c)).run C.P w' = .ok olds.toArray w') (hnew : ∀ w' : World, w'.heap = w.heap → (Builtin.firstCells i.size n y).run C.P w' = .ok vs.toArray w')
    (hol : olds.length = l * i.size) (hvl : vs.length = n * i.size) :
    ∃ rest : List Value, ∃ cap : Nat, l + n ≤ cap ∧ (olds ++ vs ++ rest).length = cap * i.size ∧
      (Builtin.append_ ats rt #[.slice p l c, y]).run C.P w = .ok (.slice (some ⟨w.heap.size, 0, none⟩) (l + n) cap) { w with heap := w.heap.push (.cells (olds ++ vs ++ rest).toArray e), drawn := w.drawn + 1 } := by
  obtain ⟨u, hu3, hu4⟩ := zeroCells_run ok hz { w with drawn := w.drawn + 1 }
  obtain ⟨inf, hinf, hib⟩ := run_info ok hi w
  have hul : u.cells.size = i.size := by have := (hu4 (fun _ => none)).length; simp only [Array.length_toList] at this; omega
  have hr1 := run_under ok hu w
  have hr2 := run_under ok hu2 w
  have hr3 := run_size ok hi w
  let cap := (Question.appendCap (l + n) c e).cut (w.tape w.drawn (.appendCap (l + n) c e))
  have hcap : l + n ≤ cap := cut_append
  have hnx := next_le hg
  have hbig : ¬ (Builtin.nextslicecap (l + n) c * inf.bytes > 2 ^ 48) := by
    have h2 : Builtin.nextslicecap (l + n) c * inf.bytes ≤ (3 * 1073741824 + 4096) * 65536 := Nat.mul_le_mul (by unfold growMost at hmost; omega) (by omega)
    omega
  have hpan : ¬ ((((l + n : Nat) : Int) > IntKind.i64.max) ∧ (False ∨ inf.bytes = 0)) := by
    rintro ⟨_, h3 | h3⟩
    · exact h3
    · omega
  refine ⟨(Builtin.zeroCells u.cells (cap - (l + n))).toList, cap, hcap, ?_, ?_⟩
  · simp only [List.length_append, Array.length_toList, zeroCells_size, hul, hol, hvl]
    rw [← Nat.add_mul, ← Nat.add_mul]
    congr 1
    omega
  · have e0 : (#[Value.slice p l c, y] : Array Value)[0]? = some (.slice p l c) := rfl
    have e1 : (#[Value.slice p l c, y] : Array Value)[1]? = some y := rfl
    unfold Builtin.append_
    simp only [h0, h1, e0, e1, Sem.run_bind, hr1, Result.andThen_ok, hr3, hr2, Sem.run_pure, hlen, Bool.false_eq_true, if_false]
    rw [if_neg (by omega)]
    simp only [Sem.run_bind, hinf, Result.andThen_ok]
    rw [if_neg hpan]
    simp only [Sem.run_bind, hinf, Result.andThen_ok]
    rw [if_neg hbig]
    simp only [Sem.run_bind, run_choose, Question.forced, Bool.false_eq_true, if_false, Result.andThen_ok]
    obtain ⟨inf2, hinf2, _⟩ := run_info ok hi { w with drawn := w.drawn + 1 }
    have ho1 := hold { w with drawn := w.drawn + 1 } rfl
    have hn1 := hnew { w with drawn := w.drawn + 1 } rfl
    simp only [hinf2, Result.andThen_ok, run_askRoom, ho1, Bool.not_false, if_true, hn1, hu3, newRow, Sem.run_bind, run_newObj, Sem.run_pure]
    congr 3
    simp [cap]

/-- A block is appended to where it lies: what it was is forgotten. -/
theorem HR.reuse {w' : World} (hr : HR C ρ h F w) {b : Pos} {o o' : AObj} {l l' : Loc} (hb : PT.get b h.t = some o) (hl : ρ b = some l) (hn : ρ h.next = none) (hw : ∀ c, c ≠ l.block → w'.heap[c]? = w.heap[c]?)
    (hbl : l'.block = l.block) (ho : ∀ ρ', Ext ρ ρ' → ObjR C ρ' w' l' o') (hne : ∀ cs, o ≠ .cells cs none) : HR C (ρ.upd h.next l') ⟨PT.set h.next o' (PT.rem b h.t), h.next.succ⟩ F w' := by
  have he := Map.upd_ext (l := l') hn
  have hnew : ∀ b k, (ρ.upd h.next l') b = some k → b ≠ h.next → ρ b = some k := fun b k e hb => by rwa [ρ.upd_ne l' hb] at e
  have hrem : ∀ {x : Pos} {ob : AObj}, PT.get x (PT.rem b h.t) = some ob → PT.get x h.t = some ob ∧ x ≠ b := by
    intro x ob e
    rw [PT.get_rem] at e
    split at e
    · cases e
    · rename_i hx; exact ⟨e, fun e2 => hx e2.symm⟩
  have hblk : ∀ {x : Pos} {ob : AObj} {k : Loc}, PT.get x (PT.rem b h.t) = some ob → ρ x = some k → k.block ≠ l.block := by
    intro x ob k e hk e2
    obtain ⟨h1, h2⟩ := hrem e
    exact h2 (hr.inj x b ob o k l h1 hb hk hl e2)
  refine ⟨?_, ?_, ?_, ?_, ?_⟩
  · intro x ob e
    simp only [PT.get_set] at e
    split at e
    · rename_i hx
      subst hx
      cases e
      exact ⟨l', ρ.upd_same _ l', ho _ he⟩
    · obtain ⟨h1, _⟩ := hrem e
      obtain ⟨k, h3, h4⟩ := hr.live x ob h1
      exact ⟨k, he _ _ h3, h4.mono he (hw _ (hblk e h3))⟩
  · intro x x' ob ob' k k' e e' hk hk' hkk
    simp only [PT.get_set] at e e'
    by_cases h1 : h.next = x
    · by_cases h2 : h.next = x'
      · exact h1.symm.trans h2
      · rw [if_neg h2] at e'
        subst h1
        rw [ρ.upd_same] at hk
        cases hk
        exact absurd (hkk.symm.trans hbl) (hblk e' (hnew _ _ hk' (fun e => h2 e.symm)))
    · rw [if_neg h1] at e
      have hk1 := hnew _ _ hk (fun e => h1 e.symm)
      by_cases h2 : h.next = x'
      · subst h2
        rw [ρ.upd_same] at hk'
        cases hk'
        exact absurd (hkk.trans hbl) (hblk e hk1)
      · rw [if_neg h2] at e'
        exact hr.inj x x' ob ob' k k' (hrem e).1 (hrem e').1 hk1 (hnew _ _ hk' (fun e => h2 e.symm)) hkk
  · intro c ob e
    exact (hr.frame c ob e).congr (hw c (fun e2 => (hr.apart c ob b o l e hb hl).ne hne e2.symm))
  · intro c ob x o2 k e e2 hk
    simp only [PT.get_set] at e2
    by_cases h1 : h.next = x
    · subst h1
      rw [ρ.upd_same] at hk
      cases hk
      exact .of_ne (by rw [hbl]; exact (hr.apart c ob b o l e hb hl).ne hne) _
    · rw [if_neg h1] at e2
      exact hr.apart c ob x o2 k e (hrem e2).1 (hnew _ _ hk (fun e => h1 e.symm))
  · intro x ob e
    simp only [PT.get_set] at e
    show x.nat < h.next.succ.nat
    rw [Pos.nat_succ]
    split at e
    · rename_i hx; subst hx; omega
    · have := hr.below x ob (hrem e).1; omega

/-- What comes of an append that makes a new block. -/
theorem good_grown {oldA newA : List AV} {olds vs rest : List Value} {size need cap : Nat} {e : TypeId} {res : Result Next} (hr : HR C ρ h F w) (hf : Fr ρ h.next h.next.succ) (h1 : VRs ρ oldA olds) (h2 : VRs ρ newA vs) (hc : need ≤ cap)
    (hl : (olds ++ vs ++ rest).length = cap * size)
    (hres : res = .ok (.value (.slice (some ⟨w.heap.size, 0, none⟩) need cap)) { w with heap := w.heap.push (.cells (olds ++ vs ++ rest).toArray e), drawn := w.drawn + 1 }) :
    Good C ρ h F w (.slice h.next 0 need (.o size)) ⟨PT.set h.next (.cells (oldA ++ newA) (some size)) h.t, h.next.succ⟩ res := by
  have hn : ρ h.next = none := hf h.next (Nat.le_refl _) (by rw [Pos.nat_succ]; omega)
  let l : Loc := ⟨w.heap.size, 0, cap * size⟩
  have h3 := hr.alloc hn (.cells (oldA ++ newA) (some size)) (.cells (olds ++ vs ++ rest).toArray e) l rfl (fun ρ' he => by
    refine ⟨(olds ++ vs ++ rest).toArray, e, .of Array.getElem?_push_size, ?_, ?_⟩
    · intro i x hx
      obtain ⟨u, h4, h5⟩ := (h1.append h2).get hx
      refine ⟨u, ?_, VR.mono he _ _ h5⟩
      have h6 := (List.getElem?_eq_some_iff.1 h4).1
      simp only [l, Nat.zero_add, List.getElem?_toArray]
      rw [List.getElem?_append_left h6]
      exact h4
    · intro k hk
      simp only [l, List.size_toArray, hl]
      omega)
  refine ⟨ρ.upd h.next l, .slice (some ⟨w.heap.size, 0, none⟩) need cap, { w with heap := w.heap.push (.cells (olds ++ vs ++ rest).toArray e), drawn := w.drawn + 1 }, ρ.upd_out _ l, by simp [Pos.nat_succ], ?_, h3.congr rfl, ⟨rfl, rfl, rfl, by simp⟩, .inl hres⟩
  simp only [VR]
  exact ⟨l, ρ.upd_same _ l, _, cap, rfl, hc, fun _ => ⟨rfl, by simp [l]⟩⟩

include ok hr he hev hf in
theorem good_append {c : Call} {x y : Operand} (ho : o.op = .call c) (hc : c.callee = .builtin .append) (ha : c.args.toList = [x, y]) (ht : trCall C.ty C.ib c = some ao) : Good C ρ h F w v h' ((execOp a.eval o).run C.P w) := by
  have hrun := run_builtin (a := a) (P := C.P) ho hc w
  rw [args_two ha] at hrun
  simp [trCall, hc, ha, Option.bind_eq_some_iff] at ht
  obtain ⟨x', hx, y', hy, t, htt, t2, htt2, d, hd, d2, hd2, ht⟩ := ht
  cases d <;> (try simp at ht)
  rename_i e
  cases d2 <;> simp [Option.bind_eq_some_iff] at ht
  rename_i e2
  obtain ⟨i, hi, z, hz, ⟨hzl, hb, hb0⟩, rfl⟩ := ht
  have h1 := val_good hx he
  have h2 := val_good hy he
  simp only [evalOp] at hev
  split at hev
  · rename_i n new hn hnew
    split at hev
    · rename_i hcell
      have hcell := allCells_eq hcell
      obtain ⟨py, cy, vs0, hey, hv0, hvl0, hread⟩ := src_read (C := C) hr h2 hn hnew
      have hlen : ∀ w' : World, (Builtin.lenOf (a.eval y)).run C.P w' = .ok n w' := fun w' => by rw [hey]; rfl
      have hexec : ∀ u w', (Builtin.append_ c.argTypes o.type #[a.eval x, a.eval y]).run C.P w = .ok u w' → (execOp a.eval o).run C.P w = .ok (.value u) w' := by
        intro u w' e1
        rw [hrun]
        simp only [builtin, Sem.run_bind, e1, Result.andThen_ok, Sem.run_pure]
      have hr1 := run_under ok hd w
      have hr2 := run_under ok hd2 w
      have hr3 := run_size ok hi w
      have h0a : c.argTypes[0]? = some t := htt
      have h1a : c.argTypes[1]? = some t2 := htt2
      -- in place
      have hplace : ∀ p l cc, a.eval x = .slice p l cc → l + n ≤ cc → (Builtin.append_ c.argTypes o.type #[a.eval x, a.eval y]).run C.P w =
          (((match p with | some ad => storeCells (ad.add (l * i.size)) vs0 | none => pure () : Sem Unit).run C.P w).andThen fun _ w' => .ok (.slice p (l + n) cc) w') := by
        intro p l cc ex hle
        rw [ex]
        have e0 : (#[Value.slice p l cc, a.eval y] : Array Value)[0]? = some (.slice p l cc) := rfl
        have e1 : (#[Value.slice p l cc, a.eval y] : Array Value)[1]? = some (a.eval y) := rfl
        unfold Builtin.append_
        simp only [h0a, h1a, e0, e1, Sem.run_bind, hr1, Result.andThen_ok, hr3, hr2, Sem.run_pure, hlen, Bool.false_eq_true, if_false]
        rw [if_pos hle]
        simp only [Bool.not_false, if_true, Sem.run_bind, hread w rfl, Result.andThen_ok]
        cases p <;> simp
      have hgrow : ∀ p l cc oldA olds, a.eval x = .slice p l cc → cc < l + n → l + n ≤ growMost → VRs ρ oldA olds → olds.length = l * i.size →
          (∀ w' : World, w'.heap = w.heap → (Builtin.firstCells i.size l (.slice p l cc)).run C.P w' = .ok olds.toArray w') →
          ∀ h0 : Heap, HR C ρ h0 F w → h0.next = h.next → Fr ρ h.next h.next.succ → Good C ρ h0 F w (.slice h.next 0 (l + n) (.o i.size)) ⟨PT.set h.next (.cells (oldA ++ new) (some i.size)) h0.t, h.next.succ⟩ ((execOp a.eval o).run C.P w) := by
        intro p l cc oldA olds ex hlt hm ho1 ho2 ho3 h0 hr0 hnx hf0
        obtain ⟨rest, cap, g1, g2, g3⟩ := run_grow (w := w) ok hi hz hzl hb hb0 hd hd2 h0a h1a (rt := o.type) (p := p) (l := l) (c := cc) (y := a.eval y) hlt hm hlen ho3 hread ho2 hvl0
        rw [← hnx] at hf0 ⊢
        exact good_grown hr0 hf0 ho1 hv0 g1 g2 (hexec _ _ (by rw [ex]; exact g3))
      unfold appendA at hev
      split at hev
      · rename_i ex
        rw [ex] at h1
        simp only [VR] at h1
        split at hev
        · cases hev
          have := hplace none 0 0 h1 (Nat.le_refl _)
          exact Good.pure hr (u := .slice none 0 0) (by simp only [VR]) (hexec _ _ (by rw [this]; rfl))
        · rename_i m
          split at hev
          · rename_i hm
            have hm := Nat.le_of_ble_eq_true hm
            simp only [alloc, R.ok.injEq] at hev
            obtain ⟨rfl, rfl⟩ := hev
            have := hgrow none 0 0 [] [] h1 (by omega) (by simpa using hm) VRs.nil (by simp) (fun w' _ => rfl) h hr rfl hf
            simpa using this
          · cases hev
      · rename_i b off l cap ex
        rw [ex] at h1
        split at hev
        · rename_i cs sp hbk
          split at hev
          · rename_i cc
            have h1' := h1
            simp only [VR] at h1'
            obtain ⟨l0, hl0, p, hx', hlc, hp⟩ := h1'
            split at hev
            · rename_i hle
              have hle := Nat.le_of_ble_eq_true hle
              split at hev
              · rename_i cs' hcs
                cases hev
                obtain ⟨w', g1, g2, g3⟩ := write_cells (C := C) hr hbk hl0 hcs hv0 hcell
                refine ⟨ρ, .slice (some p) (l + n) cc, w', Out.refl _ _ _, Nat.le_refl _, by simp only [VR]; exact ⟨l0, hl0, p, rfl, hle, hp⟩, g2, g3, .inl (hexec _ _ ?_)⟩
                rw [hplace _ _ _ hx' hle]
                by_cases hz0 : cc = 0
                · have hn0 : n = 0 := by omega
                  have hv00 : vs0 = [] := List.eq_nil_of_length_eq_zero (by rw [hvl0, hn0]; simp)
                  subst hv00
                  simp only [storeCells] at g1
                  cases g1
                  rfl
                · rw [hp (by omega)]
                  simp only [Loc.at_add, g1, Result.andThen_ok]
              · cases hev
            · rename_i hle
              have hlt : cc < l + n := by
                by_cases h3 : l + n ≤ cc
                · rw [Nat.ble_eq_true_of_le h3] at hle; cases hle
                · omega
              split at hev
              · rename_i old hold hm
                have hm := Nat.le_of_ble_eq_true hm
                simp only [alloc, R.ok.injEq] at hev
                obtain ⟨rfl, rfl⟩ := hev
                obtain ⟨p2, c2, olds, k1, k2, k3, k4, k5⟩ := slice_read' (C := C) (size := i.size) hr h1 hbk hold
                rw [hx'] at k1
                cases k1
                exact hgrow _ _ _ old olds hx' hlt hm k3 k4 (fun w' hw' => k5 w' hw') h hr rfl hf
              · cases hev
          · rename_i esz
            have h1' := h1
            simp only [VR] at h1'
            obtain ⟨l0, hl0, p, cc, hx', hlc, hp⟩ := h1'
            split at hev
            · cases hev
              have hv00 : vs0 = [] := List.eq_nil_of_length_eq_zero (by rw [hvl0]; simp)
              subst hv00
              have := hplace _ _ _ hx' hlc
              refine Good.pure hr (u := .slice (some p) l cc) (by simp only [VR]; exact ⟨l0, hl0, p, cc, rfl, hlc, hp⟩) (hexec _ _ (by rw [this]; rfl))
            · rename_i m
              split at hev
              · rename_i k hstop hesz hm
                have hstop := Nat.eq_of_beq_eq_true hstop
                have hesz := Nat.eq_of_beq_eq_true hesz
                have hm := Nat.le_of_ble_eq_true hm
                rw [len_eq, Nat.add_zero] at hstop
                rw [hesz] at hp
                simp only [alloc, R.ok.injEq] at hev
                obtain ⟨rfl, rfl⟩ := hev
                by_cases hle : l + (m + 1) ≤ cc
                · obtain ⟨hpa, hlim⟩ := hp (by omega)
                  obtain ⟨c0, e0', ⟨z0, g1, g4, _⟩, g2, g3⟩ := hr.row hbk hl0
                  rw [g4 (by simp)] at g1
                  have hsz := g3 _ rfl
                  have hn : ρ h.next = none := hf h.next (Nat.le_refl _) (by show h.next.nat < h.next.succ.nat; rw [Pos.nat_succ]; omega)
                  have hroom : l * i.size + vs0.length ≤ cc * i.size := by
                    rw [hvl0, ← Nat.add_mul]
                    exact Nat.mul_le_mul_right _ hle
                  have hone : ∀ v ∈ vs0, v.oneCell' = true := by
                    intro v hmem
                    obtain ⟨j, hj⟩ := List.getElem?_of_mem hmem
                    have hj' : j < new.length := by
                      have h3 := (List.getElem?_eq_some_iff.1 hj).1
                      rw [hv0.length] at h3
                      exact h3
                    obtain ⟨u, h6, h7⟩ := hv0.getElem (List.getElem?_eq_getElem hj')
                    rw [hj] at h6
                    cases h6
                    exact h7.oneCell (hcell _ (List.getElem_mem hj'))
                  have hst := run_storeCells_at (P := C.P) l0.block (l0.base + (off + l * i.size)) e0' vs0 0 c0 w g1 (by omega) hone
                  let l' : Loc := ⟨l0.block, l0.base + off, l0.lim - off⟩
                  have hreuse := hr.reuse (o' := .cells (dropX cs off ++ new) (some i.size)) (l' := l') (w' := w.setRow l0.block (c0.toList.take (l0.base + (off + l * i.size) + 0) ++ vs0 ++ c0.toList.drop (l0.base + (off + l * i.size) + 0 + vs0.length)).toArray)
                    hbk hl0 hn (fun cb hcb => setRow_other w _ cb _ hcb) rfl (fun ρ' he' => by
                      refine ⟨_, e0', .of (setRow_heap w _ c0 _ e0' _ g1), ?_, ?_⟩
                      · intro j z hz
                        rw [nth_eq, dropX_eq] at hz
                        simp only [Nat.add_zero, List.getElem?_toArray, l']
                        by_cases hj : j < l * i.size
                        · rw [List.getElem?_append_left (by simp; omega), List.getElem?_drop] at hz
                          obtain ⟨u, h6, h7⟩ := g2 _ _ hz
                          refine ⟨u, ?_, VR.mono he' _ _ h7⟩
                          rw [List.append_assoc, List.getElem?_append_left (by simp; omega), List.getElem?_take, if_pos (by omega)]
                          rw [← h6, ← Array.getElem?_toList]
                          congr 1
                          omega
                        · rw [List.getElem?_append_right (by simp; omega)] at hz
                          obtain ⟨u, h6, h7⟩ := hv0.getElem hz
                          refine ⟨u, ?_, VR.mono he' _ _ h7⟩
                          have h8 := (List.getElem?_eq_some_iff.1 h6).1
                          simp only [List.length_drop] at h8 h6
                          rw [List.append_assoc, List.getElem?_append_right (by simp; omega), List.getElem?_append_left (by simp; omega)]
                          rw [← h6]
                          congr 1
                          simp
                          omega
                      · intro k2 hk2
                        simp [l']
                        omega)
                  refine ⟨ρ.upd h.next l', .slice (some p) (l + (m + 1)) cc, _, ρ.upd_out _ l', by simp [Pos.nat_succ], ?_, hreuse (fun _ e => by cases e), ⟨by simp, by simp, by simp, by simp⟩, .inl (hexec _ _ ?_)⟩
                  · simp only [VR]
                    refine ⟨l', ρ.upd_same _ l', p, cc, rfl, hle, fun _ => ⟨by rw [hpa]; simp [Loc.at, l'], by simp [l']; omega⟩⟩
                  · rw [hplace _ _ _ hx' hle, hpa]
                    simp only [Loc.at_add]
                    simp only [Loc.at] at hst ⊢
                    simp only [hst, Result.andThen_ok]
                · have htk : takeX (dropX cs off) (l * i.size) = some (dropX cs off) := by
                    have := takeX_all (dropX cs off)
                    rwa [dropX_eq, List.length_drop, show cs.length - off = l * i.size by omega, ← dropX_eq] at this
                  obtain ⟨p2, c2, olds, k1, k2, k3, k4, k5⟩ := slice_read' (C := C) (size := i.size) hr h1 hbk htk
                  rw [hx'] at k1
                  cases k1
                  exact hgrow _ _ _ _ olds hx' (by omega) hm k3 k4 (fun w' hw' => k5 w' hw') ⟨PT.rem b h.t, h.next⟩ (hr.rem b) rfl hf
              · cases hev
        · cases hev
      · cases hev
    · cases hev
  · cases hev

end
end Go.Am

namespace Go.Am
section
variable {C : Cx} {ρ : Map} {h h' : Heap} {F : Nat → Option FObj} {w : World} {env : Env} {a : Act} {r : Rec} {o : Oper} {ao : AOp} {v : AV}
variable (ok : C.OK) (hr : HR C ρ h F w) (he : ER ρ env.tmps a.tmps) (hf : Fr ρ h.next h'.next) (hev : evalOp r env h ao = .ok v h')

theorem takeX_some : ∀ {l : List AV} {k : Nat}, k ≤ l.length → takeX l k = some (l.take k)
  | l, 0, _ => by cases l <;> simp [takeX]
  | [], k + 1, h => by simp at h
  | x :: l, k + 1, h => by
    simp only [takeX]
    rw [takeX_some (by simpa using h)]
    simp

/-- The first cells of a slice are read. -/
theorem src_prefix {size n m : Nat} {y : AV} {u : Value} {src new : List AV} (hr : HR C ρ h F w) (hv : VR ρ y u) (hn : lenOfSlice y = some m) (hc : cellsOfSlice size h y = some src) (ht : takeX src (n * size) = some new) (hnm : n ≤ m) :
    ∃ p c vs, u = .slice p m c ∧ VRs ρ new vs ∧ (Builtin.firstCells size n u).run C.P w = .ok vs.toArray w := by
  obtain ⟨ht1, ht2⟩ := takeX_eq ht
  cases y <;> simp only [lenOfSlice, reduceCtorEq, Option.some.injEq] at hn
  · subst hn
    simp only [cellsOfSlice, Option.some.injEq] at hc
    subst hc
    simp only [VR] at hv
    subst hv
    simp at ht1
    subst ht1
    exact ⟨none, 0, [], rfl, VRs.nil, rfl⟩
  · subst hn
    rename_i b off len cap
    simp only [cellsOfSlice] at hc
    split at hc
    · rename_i cs sp hb
      obtain ⟨hs1, hs2⟩ := takeX_eq hc
      have hle : n * size ≤ len * size := Nat.mul_le_mul_right _ hnm
      have key : ∃ l p c, ρ b = some l ∧ u = .slice (some p) len c ∧ len ≤ c ∧ (0 < c → p = l.at off) := by
        cases cap <;> simp only [VR] at hv
        · obtain ⟨l, h1, p, c, h2, h3, h4⟩ := hv; exact ⟨l, p, c, h1, h2, h3, fun h => (h4 h).1⟩
        · obtain ⟨l, h1, p, h2, h3, h4⟩ := hv; exact ⟨l, p, _, h1, h2, h3, h4⟩
      obtain ⟨l, p, c, h1, h2, h3, h4⟩ := key
      by_cases h0 : n * size = 0
      · rw [h0] at ht2
        have h6 : new = [] := List.eq_nil_of_length_eq_zero ht2
        subst h6
        refine ⟨some p, c, [], h2, VRs.nil, ?_⟩
        rw [h2]
        simp [Builtin.firstCells, h0, loadCells, loadCellsFrom]
      · have h5 : n ≠ 0 := fun e => h0 (by rw [e]; simp)
        have h6 : takeX (dropX cs off) (n * size) = some new := by
          have h7 : (dropX cs off).length ≥ len * size := by
            have := congrArg List.length hs1
            rw [hs2] at this
            simp at this
            omega
          rw [takeX_some (by omega), ht1, hs1, List.take_take]
          congr 2
          omega
        obtain ⟨vs, h8, h9, h10⟩ := read_cells (C := C) hr hb h1 h6
        refine ⟨some p, c, vs, h2, h8, ?_⟩
        rw [h2]
        simp only [Builtin.firstCells]
        rw [h4 (by omega)]
        exact h10
    · cases hc

include ok hr he hev in
theorem good_copy {c : Call} {x y : Operand} (ho : o.op = .call c) (hc : c.callee = .builtin .copy) (ha : c.args.toList = [x, y]) (ht : trCall C.ty C.ib c = some ao) : Good C ρ h F w v h' ((execOp a.eval o).run C.P w) := by
  have hrun := run_builtin (a := a) (P := C.P) ho hc w
  rw [args_two ha] at hrun
  simp [trCall, hc, ha, Option.bind_eq_some_iff] at ht
  obtain ⟨x', hx, y', hy, t, htt, d, hd, ht⟩ := ht
  cases d <;> simp [Option.bind_eq_some_iff] at ht
  rename_i e
  obtain ⟨i, hi, rfl⟩ := ht
  have h1 := val_good hx he
  have h2 := val_good hy he
  have hr1 := run_under ok hd w
  have hr3 := run_size ok hi w
  have h0a : c.argTypes[0]? = some t := htt
  have hexec : ∀ u w', (Builtin.copy_ c.argTypes o.type #[a.eval x, a.eval y]).run C.P w = .ok u w' → (execOp a.eval o).run C.P w = .ok (.value u) w' := by
    intro u w' e1
    rw [hrun]
    simp only [builtin, Sem.run_bind, e1, Result.andThen_ok, Sem.run_pure]
  have hplace : ∀ p l cc py m cy n vs, a.eval x = .slice p l cc → a.eval y = .slice py m cy → n = min m l → (Builtin.firstCells i.size n (a.eval y)).run C.P w = .ok vs w → (Builtin.copy_ c.argTypes o.type #[a.eval x, a.eval y]).run C.P w =
      (((match p with | some ad => storeCells ad vs.toList | none => pure () : Sem Unit).run C.P w).andThen fun _ w' => .ok (goInt n) w') := by
    intro p l cc py m cy n vs ex ey hn hread
    subst hn
    rw [ex]
    rw [ey] at hread ⊢
    have e0 : (#[Value.slice p l cc, Value.slice py m cy] : Array Value)[0]? = some (.slice p l cc) := rfl
    have e1 : (#[Value.slice p l cc, Value.slice py m cy] : Array Value)[1]? = some (.slice py m cy) := rfl
    have hmin : Nat.min m l = min m l := rfl
    unfold Builtin.copy_
    simp only [h0a, e0, e1, Sem.run_bind, hr1, Result.andThen_ok, hr3, Builtin.lenOf, Sem.run_pure, hmin, hread]
    cases p <;> simp
  simp only [evalOp] at hev
  split at hev
  · rename_i n src ex hn hsrc
    cases hev
    rw [ex] at h1
    simp only [VR] at h1
    obtain ⟨p, cc, vs, g1, g2, g3⟩ := src_prefix (C := C) (n := 0) (new := []) hr h2 hn hsrc (by simp [takeX_some]) (Nat.zero_le _)
    simp only [VRs] at g2
    subst g2
    have := hplace none 0 0 _ _ _ 0 _ h1 g1 (by simp) g3
    exact Good.pure hr (u := goInt 0) VR.int (hexec _ _ (by rw [this]; rfl))
  · rename_i b off l cap n src ex hn hsrc
    rw [ex] at h1
    split at hev
    · rename_i cs sp hb
      split at hev
      · rename_i new hnew
        split at hev
        · rename_i hcell
          have hcell := allCells_eq hcell
          split at hev
          · rename_i cs' hcs
            cases hev
            obtain ⟨p, cc, vs, g1, g2, g3⟩ := src_prefix (C := C) (n := min n l) hr h2 hn hsrc hnew (Nat.min_le_left _ _)
            have key : ∃ l0 px cx, ρ b = some l0 ∧ a.eval x = .slice (some px) l cx ∧ l ≤ cx ∧ (0 < cx → px = l0.at off) := by
              cases cap <;> simp only [VR] at h1
              · obtain ⟨l0, h1, p, c, h2, h3, h4⟩ := h1; exact ⟨l0, p, c, h1, h2, h3, fun h => (h4 h).1⟩
              · obtain ⟨l0, h1, p, h2, h3, h4⟩ := h1; exact ⟨l0, p, _, h1, h2, h3, h4⟩
            obtain ⟨l0, px, cx, k1, k2, k3, k4⟩ := key
            obtain ⟨w', s1, s2, s3⟩ := write_cells (C := C) hr hb k1 hcs g2 hcell
            refine ⟨ρ, goInt (min n l : Nat), w', Out.refl _ _ _, Nat.le_refl _, VR.int, s2, s3, .inl (hexec _ _ ?_)⟩
            rw [hplace _ _ _ _ _ _ _ _ k2 g1 rfl g3]
            by_cases h0 : cx = 0
            · have hl0 : l = 0 := by omega
              have hnl : new = [] := by
                have := (takeX_eq hnew).2
                rw [hl0] at this
                exact List.eq_nil_of_length_eq_zero (by simpa using this)
              subst hnl
              simp only [VRs] at g2
              subst g2
              simp only [storeCells] at s1
              cases s1
              rfl
            · rw [k4 (by omega)]
              simp only [s1, Result.andThen_ok]
          · cases hev
        · cases hev
      · cases hev
    · cases hev
  · cases hev

theorem mapM_two : ∀ {args : List Operand} {x y : AArg}, List.mapM trArg args = some [x, y] → ∃ xo yo, args = [xo, yo] ∧ trArg xo = some x ∧ trArg yo = some y
  | [], x, y, h => by simp at h
  | [xo], x, y, h => by
    cases hx : trArg xo <;> simp [hx] at h
  | [xo, yo], x, y, h => by
    cases hx : trArg xo <;> cases hy : trArg yo <;> simp [hx, hy] at h
    exact ⟨xo, yo, rfl, by rw [hx, h.1], by rw [hy, h.2]⟩
  | xo :: yo :: zo :: args, x, y, h => by
    cases hx : trArg xo <;> cases hy : trArg yo <;> cases hz : trArg zo <;> cases hr : List.mapM trArg args <;> simp [hx, hy, hz, hr] at h

include ok hr he hev hf in
/-- Whatever an operation is that calls nobody. -/
theorem good_op (ht : trOp C.ty C.ib o = some ao) (hc : ao.calls = false) : Good C ρ h F w v h' ((execOp a.eval o).run C.P w) := by
  cases hop : o.op with
  | move x => exact good_move hr he ht hev (.inl hop)
  | assign x => exact good_move hr he ht hev (.inr hop)
  | pick c x y => exact good_pick hr he ht hev hop
  | alloc t => exact good_alloc ok hr hf ht hev hop
  | box t x => exact good_box hr he hf ht hev hop
  | build t ps => exact good_build ok hr he ht hev hop
  | buildSlice t n ps => exact good_buildSlice ok hr he hf ht hev hop
  | insert t m k x => exact good_insert ok hr he ht hev (.inl hop)
  | mapUpdate t m k x => exact good_insert ok hr he ht hev (.inr hop)
  | load t x => exact good_load ok hr he ht hev hop
  | store t x y => exact good_store ok hr he ht hev hop
  | nilCheck x => exact good_nilCheck hr he ht hev hop
  | binOp op t x y yt => exact good_bin ok hr he ht hev hop
  | unOp op t x => exact good_unOp hr he ht hev hop
  | convert s d x => exact good_convert ok hr he ht hev hop
  | makeInterface t x => exact good_makeIface ok hr he ht hev hop
  | makeFunc fn x y => exact good_makeFunc hr he ht hev hop
  | makeMap t x => exact good_makeMap ok hr hf ht hev hop
  | makeSlice t x y => exact good_makeSlice ok hr he hf ht hev hop
  | slice t x lo hi mx => exact good_slice ok hr he hev hop ht
  | fieldAddr t x k => exact good_fieldAddr ok hr he ht hev hop
  | field t x k => exact good_field ok hr he ht hev hop
  | indexAddr t x y => exact good_indexAddr ok hr he ht hev hop
  | index t x y => exact good_index ok hr he ht hev hop
  | lookup t x y c => exact good_lookup ok hr he ht hev hop
  | extract x k => exact good_extract hr he ht hev hop
  | call c =>
    have ht' : trCall C.ty C.ib c = some ao := by simpa [trOp, hop] using ht
    have key := ht'
    unfold trCall at key
    split at key
    · rename_i f hcal
      simp [Option.bind_eq_some_iff] at key
      obtain ⟨l, hl, key⟩ := key
      split at key
      · rename_i hfi
        subst hfi
        split at key
        · rename_i x y
          cases key
          have hl2 := mapM_two hl
          obtain ⟨xo, yo, hargs2, hx, hy⟩ := hl2
          have h1 := val_good hx he
          have h2 := val_good hy he
          simp only [evalOp] at hev
          split at hev
          · rename_i s c1 e1 e2
            split at hev
            · rename_i hlt
              cases hev
              rw [e1] at h1
              rw [e2] at h2
              simp only [VR] at h1 h2
              obtain ⟨bs, h3, h4⟩ := h1
              refine Good.pure hr VR.int ?_
              have h5 := args_two hargs2 a.eval
              have h6 := ok.ibyte bs c1 w (Nat.le_of_ble_eq_true hlt)
              rw [h3, h2] at h5
              have h7 : a.eval (.func C.ib) = .func (.func C.ib) #[] #[] := rfl
              simp only [execOp, hop, resolve, hcal, h5, h7, Deferred.ofValue, Sem.run_bind, Sem.run_pure, Result.andThen_ok, invoke]
              rw [h4]
              simpa using h6
            · cases hev
          · cases hev
        · cases key
      · simp at key
        rw [← key.2] at hc
        simp [AOp.calls] at hc
    · rename_i x args hcal hne hargs
      simp [Option.bind_eq_some_iff] at key
      obtain ⟨_, _, _, _, rfl⟩ := key
      simp [AOp.calls] at hc
    · rename_i x hcal hargs; exact good_len ok hr he hev hop hcal hargs ht'
    · rename_i x y hcal hargs; exact good_append ok hr he hf hev hop hcal hargs ht'
    · rename_i x y hcal hargs; exact good_delete ok hr he hev hop hcal hargs ht'
    · rename_i hcal hargs
      cases key
      simp [AOp.calls] at hc
    · rename_i x y hcal hargs; exact good_min hr he hev hop hcal hargs ht'
    · rename_i x y hcal hargs; exact good_max hr he hev hop hcal hargs ht'
    · rename_i x y hcal hargs; exact good_copy ok hr he hev hop hcal hargs ht'
    · cases key
  | defer c =>
    simp [trOp, hop] at ht
    split at ht
    · simp [Option.bind_eq_some_iff] at ht
      obtain ⟨_, _, _, _, rfl⟩ := ht
      simp [AOp.calls] at hc
    · cases ht
  | _ => simp [trOp, hop] at ht

end
end Go.Am

