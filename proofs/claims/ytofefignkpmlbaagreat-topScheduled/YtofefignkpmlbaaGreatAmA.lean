/- An abstract machine for Go code and its soundness over the model; no condition of its own. Used by the proof that the law TopScheduled returns true at every input. -/
import Derived.Test.YtofefignkpmlbaaGreatAm9
namespace Go.Am
section
variable {C : Cx} {ρ : Map} {h h' : Heap} {env env' : Env} {r : Rec} {v : AV}

theorem pure_of_v {op : AOp} (hc : op.cls = some .v) (hev : evalOp r env h op = .ok v h') : h' = h ∧ ∀ h2, evalOp r env h2 op = .ok v h2 := by
  cases op <;> first | (simp [AOp.cls] at hc; done) | skip
  case bin b x y => simp only [evalOp] at hev ⊢; exact bin_pure hev
  case eqA n x y =>
    simp only [evalOp] at hev ⊢
    split at hev
    · unfold boolV at hev ⊢
      split at hev <;> first | (cases hev; done) | (cases hev; exact ⟨rfl, fun _ => by simp only [*]⟩)
    · cases hev
  all_goals
    simp only [evalOp] at hev ⊢
    repeat' split at hev
    all_goals first
      | (cases hev; done)
      | (cases hev; exact ⟨rfl, fun _ => by first | rfl | simp only [*]⟩)

theorem same_of_r {op : AOp} {k : Nat} (hc : op.cls = some (.r k)) (hev : evalOp r env h op = .ok v h') : h' = h := by
  cases op <;> first | (simp [AOp.cls] at hc; done) | skip
  all_goals
    simp only [evalOp] at hev
    repeat' split at hev
    all_goals first
      | (cases hev; done)
      | (cases hev; rfl)

/-- A new block, and nothing else. -/
def Makes (r : Rec) (env : Env) (op : AOp) (p : Pos) (v : AV) (o : AObj) : Prop :=
  ∀ h2 : Heap, h2.next = p → evalOp r env h2 op = .ok v ⟨PT.set p o h2.t, p.succ⟩

theorem makes_of_a {op : AOp} (hc : op.cls = some .a) (hev : evalOp r env h op = .ok v h') : ∃ o, h' = ⟨PT.set h.next o h.t, h.next.succ⟩ ∧ Makes r env op h.next v o := by
  cases op <;> first | (simp [AOp.cls] at hc; done) | skip
  all_goals
    simp only [evalOp, alloc] at hev
    repeat' split at hev
    all_goals first
      | (cases hev; done)
      | (cases hev
         exact ⟨_, rfl, fun h2 e => by simp only [evalOp, alloc, *]⟩)

end
end Go.Am

namespace Go.Am
section

theorem inMask_ancOf (tbl : List Nat) : ∀ (l : List Nat) (z : Nat), inMask (ancOf tbl l) z = true ↔ ∃ p ∈ l, z = p ∨ inMask (tbl.getD p 0) z = true
  | [], z => by simp [ancOf, inMask]
  | p :: l, z => by
    have ih := inMask_ancOf tbl l z
    simp only [inMask, ancOf, Nat.testBit_or, Bool.or_eq_true, List.mem_cons, exists_eq_or_imp] at ih ⊢
    rw [ih]
    have h1 : (1 <<< p).testBit z = true ↔ z = p := by
      rw [Nat.testBit_shiftLeft]
      simp only [ge_iff_le, Bool.and_eq_true, decide_eq_true_eq]
      constructor
      · rintro ⟨h2, h3⟩
        have := Nat.testBit_one_eq_true_iff_self_eq_zero.1 h3
        omega
      · rintro rfl
        simp
    rw [h1]

/-- The order of a region holds. -/
structure Stat (C : Cx) (nt : Nat) (ops : Array Oper) (anc : List Nat) (items : List DItem) : Prop where
  found : ∀ x ∈ items, ∃ o, ops[x.ix]? = some o ∧ trOper C.ty C.ib nt ops o = some x.o
  all : ∀ i o, ops[i]? = some o → ∃ x ∈ items, x.ix = i
  before : ∀ i o, ops[i]? = some o → ∀ z, inMask (anc.getD i 0) z = true ↔ ∃ e ∈ o.after, Region.binds .any e = true ∧ (z = e.on ∨ inMask (anc.getD e.on 0) z = true)
  pair : ∀ (p q : Nat) (x y : DItem), p < q → items[p]? = some x → items[q]? = some y → okPair anc x y = true
  one : ∀ (p : Nat) (x : DItem), items[p]? = some x → okOne anc x (items.take p).reverse = true
  ent : items.any isI = true → items.any isER = false
  len : items.length ≤ ops.size
  range : ∀ (i : Nat) (o : Oper), ops[i]? = some o → ∀ e ∈ o.after, Region.binds .any e = true → e.on < ops.size
  irr : ∀ x ∈ items, inMask (anc.getD x.ix 0) x.ix = false

theorem allPairs_get {f : DItem → DItem → Bool} : ∀ {l : List DItem}, allPairs f l = true → ∀ (p q : Nat) (x y : DItem), p < q → l[p]? = some x → l[q]? = some y → f x y = true
  | [], _, p, q, x, y, _, h, _ => by simp at h
  | z :: l, h, p, q, x, y, hpq, hx, hy => by
    simp only [allPairs, Bool.and_eq_true, List.all_eq_true] at h
    obtain ⟨q, rfl⟩ : ∃ q', q = q' + 1 := ⟨q - 1, by omega⟩
    simp only [List.getElem?_cons_succ] at hy
    cases p with
    | zero =>
      simp only [List.getElem?_cons_zero, Option.some.injEq] at hx
      subst hx
      exact h.1 y (List.mem_of_getElem? hy)
    | succ p =>
      simp only [List.getElem?_cons_succ] at hx
      exact allPairs_get h.2 p q x y (by omega) hx hy

theorem okEach_get {anc : List Nat} : ∀ {l before : List DItem}, okEach anc l before = true → ∀ p x, l[p]? = some x → okOne anc x ((l.take p).reverse ++ before) = true
  | [], _, _, p, x, h => by simp at h
  | z :: l, before, h, p, x, hx => by
    simp only [okEach, Bool.and_eq_true] at h
    cases p with
    | zero =>
      simp only [List.getElem?_cons_zero, Option.some.injEq] at hx
      subst hx
      simpa using h.1
    | succ p =>
      simp only [List.getElem?_cons_succ] at hx
      have := okEach_get h.2 p x hx
      simpa using this

theorem okAnc_get {anc : List Nat} : ∀ {l : List (List Nat)} {n : Nat}, okAnc anc n l = true → ∀ i ps, l[i]? = some ps → anc.getD (n + i) 0 = ancOf anc ps
  | [], n, _, i, ps, h => by simp at h
  | x :: l, n, h, i, ps, hi => by
    simp only [okAnc, Bool.and_eq_true] at h
    cases i with
    | zero =>
      simp only [List.getElem?_cons_zero, Option.some.injEq] at hi
      subst hi
      exact Nat.eq_of_beq_eq_true h.1
    | succ i =>
      simp only [List.getElem?_cons_succ] at hi
      have := okAnc_get h.2 i ps hi
      rwa [show n + (i + 1) = n + 1 + i by omega]

theorem mapM_get {α β : Type} {f : α → Option β} : ∀ {l : List α} {m : List β}, l.mapM f = some m → ∀ (i : Nat), (∀ b, m[i]? = some b → ∃ a, l[i]? = some a ∧ f a = some b) ∧ (∀ a, l[i]? = some a → ∃ b, m[i]? = some b ∧ f a = some b)
  | [], m, h, i => by simp only [List.mapM_nil] at h; cases h; simp
  | a :: l, m, h, i => by
    simp only [List.mapM_cons] at h
    cases hx : f a with
    | none => simp [hx] at h
    | some b =>
      cases hs : l.mapM f with
      | none => simp [hx, hs] at h
      | some m' =>
        simp [hx, hs] at h
        subst h
        cases i with
        | zero => simp [hx]
        | succ i => simpa using mapM_get hs i

theorem trDrawn_inv {C : Cx} {nt : Nat} {ops : Array Oper} {items : List DItem} (h : trDrawn C.ty C.ib nt ops = some items) : (∃ anc, Stat C nt ops anc items) ∨ items = [⟨0, .v, ⟨none, none, .bad⟩⟩] := by
  simp only [trDrawn] at h
  cases has : ops.toList.mapM (trOper C.ty C.ib nt ops) with
  | none => simp [has] at h
  | some as =>
    simp only [has, Option.bind_eq_bind, Option.bind_some, Option.pure_def, Option.some.injEq] at h
    split at h
    · rename_i its hits
      split at h
      · rename_i hok
        subst h
        left
        refine ⟨ancTbl (predsOf ops) [], ?_⟩
        generalize ancTbl (predsOf ops) [] = anc at hok
        simp only [okD, Bool.and_eq_true, List.all_eq_true, List.any_eq_true] at hok
        obtain ⟨h1, h2, h3, h4, h5, h6, h7, h8⟩ := hok
        have hps : ∀ (i : Nat) (o : Oper), ops[i]? = some o → (predsOf ops)[i]? = some ((o.after.toList.filter (Region.binds .any ·)).map (·.on)) := by
          intro i o ho
          simp [predsOf, ho]
        refine ⟨?_, ?_, ?_, allPairs_get h3, ?_, ?_, ?_, ?_, ?_⟩
        · intro x hx
          obtain ⟨i, hi⟩ := List.getElem?_of_mem hx
          obtain ⟨y, hy, he⟩ := (mapM_get hits i).1 x hi
          simp only [itemOf, Option.map_eq_some_iff] at he
          obtain ⟨ao, hao, rfl⟩ := he
          obtain ⟨o, ho, htr⟩ := (mapM_get has _).1 _ hao
          exact ⟨o, by simpa using ho, htr⟩
        · intro i o ho
          have hlt : i < (predsOf ops).length := by
            have := (Array.getElem?_eq_some_iff.1 ho).1
            simpa [predsOf] using this
          obtain ⟨x, hx, he⟩ := h2 i (List.mem_range.2 hlt)
          exact ⟨x, hx, Nat.eq_of_beq_eq_true he⟩
        · intro i o ho z
          have := okAnc_get h1 i _ (hps i o ho)
          rw [Nat.zero_add] at this
          rw [this, inMask_ancOf]
          simp only [List.mem_map, List.mem_filter, Array.mem_toList_iff]
          constructor
          · rintro ⟨p, ⟨e, ⟨h6, h7⟩, rfl⟩, h8⟩
            exact ⟨e, h6, h7, h8⟩
          · rintro ⟨e, h6, h7, h8⟩
            exact ⟨e.on, ⟨e, ⟨h6, h7⟩, rfl⟩, h8⟩
        · intro p x hx
          simpa using okEach_get h4 p x hx
        · intro hi
          split at h5
          · rename_i hh
            simpa using h5
          · rename_i hh
            rw [hi] at hh; cases hh
        · have := Nat.le_of_ble_eq_true h6
          simpa [predsOf] using this
        · intro i o ho e he hb
          have hm : e.on ∈ (o.after.toList.filter (Region.binds .any ·)).map (·.on) := List.mem_map.2 ⟨e, List.mem_filter.2 ⟨by simpa using he, hb⟩, rfl⟩
          have := h7 _ (List.mem_of_getElem? (hps i o ho)) _ hm
          have h9 : e.on + 1 ≤ (predsOf ops).length := Nat.le_of_ble_eq_true this
          have h10 : (predsOf ops).length = ops.size := by simp [predsOf]
          rw [h10] at h9
          exact h9
        · intro x hx
          have := h8 x hx
          simpa using this
      · exact .inr h.symm
    · exact .inr h.symm

section
variable {C : Cx} {nt : Nat} {ops : Array Oper} {anc : List Nat} {items : List DItem} {x y : DItem}

theorem okPair_ix (h : okPair anc x y = true) : x.ix ≠ y.ix := by
  simp only [okPair, Bool.and_eq_true, Bool.not_eq_true'] at h
  intro e
  rw [e] at h
  simp [Nat.beq_refl] at h

theorem okPair_top (h : okPair anc x y = true) : inMask (anc.getD x.ix 0) y.ix = false := by
  simp only [okPair, Bool.and_eq_true, Bool.not_eq_true'] at h
  exact h.2.1

theorem Pos.beq_refl : ∀ p : Pos, p.beq p = true
  | .H => rfl
  | .O p => Pos.beq_refl p
  | .I p => Pos.beq_refl p

theorem hasPos_iff {p : Pos} : ∀ {l : List Pos}, hasPos p l = true ↔ p ∈ l
  | [] => by simp [hasPos]
  | q :: l => by
    have ih := hasPos_iff (p := p) (l := l)
    simp only [hasPos]
    split
    · rename_i h; simp [Pos.beq_eq h]
    · rename_i h
      rw [ih, List.mem_cons]
      constructor
      · exact fun h2 => .inr h2
      · rintro (rfl | h2)
        · rw [Pos.beq_refl] at h; cases h
        · exact h2

theorem okPair_dst (h : okPair anc x y = true) {d : Pos} (hx : x.o.dst = some d) (hy : y.o.dst = some d) : False := by
  simp only [okPair, Bool.and_eq_true, Bool.not_eq_true'] at h
  have := h.2.2.1
  rw [hx, hy] at this
  simp [sameDst, Pos.beq_refl] at this

theorem okPair_m (h : okPair anc x y = true) : inMask (anc.getD y.ix 0) x.ix = true ∨ ((∀ d, x.o.dst = some d → d ∉ y.o.reads) ∧ (∀ d, y.o.dst = some d → d ∉ x.o.reads) ∧ isE y.cls = false) := by
  simp only [okPair, Bool.and_eq_true] at h
  have := h.2.2.2.1
  split at this
  · rename_i hm; exact .inl hm
  · right
    have h0 : ((readsOf y x.o.dst = false ∧ readsOf x y.o.dst = false) ∧ isE y.cls = false) := by
      revert this
      cases readsOf y x.o.dst <;> cases readsOf x y.o.dst <;> cases isE y.cls <;> simp
    obtain ⟨⟨h1, h2⟩, h3⟩ := h0
    refine ⟨?_, ?_, h3⟩
    · intro d e hd
      rw [e] at h1
      have h4 : hasPos d y.o.reads = false := h1
      rw [hasPos_iff.2 hd] at h4; cases h4
    · intro d e hd
      rw [e] at h2
      have h4 : hasPos d x.o.reads = false := h2
      rw [hasPos_iff.2 hd] at h4; cases h4

theorem okPair_keys (h : okPair anc x y = true) (hx : x.cls = .i) (hy : y.cls = .i) : ∃ q q' m m' k k' v v', x.o.op = .insert q m (.c k) v ∧ y.o.op = .insert q' m' (.c k') v' ∧ same q k k' = some false ∧ same q k' k = some false := by
  simp only [okPair, Bool.and_eq_true] at h
  have := h.2.2.2.2
  simp only [okKeys, hx, hy] at this
  split at this
  · rename_i q m k v q' m' k' v' e1 e2
    split at this
    · rename_i s1 s2
      exact ⟨_, _, _, _, _, _, _, _, e1, e2, s1, s2⟩
    · cases this
  · cases this

end
end
end Go.Am

namespace Go.Am
section
variable {C : Cx} {r : Rec} {nt : Nat} {ops : Array Oper} {anc : List Nat} {items : List DItem} {x y : DItem}

/-- What one operation of a region that draws its order comes to in the order laid. -/
def StepD (r : Rec) (x : DItem) (env : Env) (hs : List Heap) (h : Heap) (v : AV) (env' : Env) (hs' : List Heap) (h' : Heap) : Prop :=
  env' = putV x.o.dst v env ∧
  ((wanted env x.o.guard = some false ∧ v = .tup [] ∧ h' = h ∧ hs' = (if isE x.cls then h :: hs else hs)) ∨
   (wanted env x.o.guard = some true ∧
     match x.cls with
     | .e => evalOp r env h x.o.op = .ok v h' ∧ hs' = h' :: hs
     | .r k => ∃ h0 hs0 hx, hs = h0 :: hs0 ∧ evalOp r env h0 x.o.op = .ok v hx ∧ recheck r env x.o.op v k hs0 = true ∧ h' = h ∧ hs' = hs
     | _ => evalOp r env h x.o.op = .ok v h' ∧ hs' = hs))

theorem stepD_inv {env : Env} {hs : List Heap} {h : Heap} {z : Env × List Heap} {h' : Heap} (hev : stepD r x env hs h = .ok z h') : ∃ v, StepD r x env hs h v z.1 z.2 h' := by
  unfold stepD at hev
  split at hev
  · cases hev
  · rename_i hw
    split at hev
    · rename_i hc
      cases hev
      exact ⟨.tup [], rfl, .inl ⟨hw, rfl, rfl, by simp [hc, isE]⟩⟩
    · rename_i hc
      cases hev
      refine ⟨.tup [], rfl, .inl ⟨hw, rfl, rfl, ?_⟩⟩
      have : isE x.cls = false := by
        cases hx : x.cls <;> first | rfl | exact absurd hx hc
      simp [this]
  · rename_i hw
    split at hev
    · rename_i hc
      split at hev
      · rename_i v h1 hop
        cases hev
        refine ⟨v, rfl, .inr ⟨hw, ?_⟩⟩
        rw [hc]
        exact ⟨hop, rfl⟩
      · cases hev
    · rename_i k hc
      split at hev
      · rename_i h0 hs0
        split at hev
        · rename_i v hx hop
          split at hev
          · rename_i hre
            cases hev
            refine ⟨v, rfl, .inr ⟨hw, ?_⟩⟩
            rw [hc]
            exact ⟨h0, hs0, hx, rfl, hop, hre, rfl, rfl⟩
          · cases hev
        · cases hev
      · cases hev
    · rename_i hc1 hc2
      split at hev
      · rename_i v h1 hop
        cases hev
        refine ⟨v, rfl, .inr ⟨hw, ?_⟩⟩
        cases hx : x.cls with
        | e => exact absurd hx hc1
        | r k => exact absurd hx (hc2 k)
        | _ => exact ⟨hop, rfl⟩
      · cases hev

/-- The way that the order laid takes. -/
structure Trace (r : Rec) (items : List DItem) (env : Env) (h : Heap) (E : Nat → Env) (HS : Nat → List Heap) (Hf : Nat → Heap) (V : Nat → AV) : Prop where
  env0 : E 0 = env
  hs0 : HS 0 = [h]
  h0 : Hf 0 = h
  step : ∀ (p : Nat) (x : DItem), items[p]? = some x → StepD r x (E p) (HS p) (Hf p) (V p) (E (p + 1)) (HS (p + 1)) (Hf (p + 1))

theorem evalD_trace' : ∀ {items : List DItem} {env : Env} {hs : List Heap} {h : Heap} {z : Env × List Heap} {h' : Heap}, evalD r items env hs h = .ok z h' →
    ∃ (E : Nat → Env) (HS : Nat → List Heap) (Hf : Nat → Heap) (V : Nat → AV), E 0 = env ∧ HS 0 = hs ∧ Hf 0 = h ∧ E items.length = z.1 ∧ Hf items.length = h' ∧
      ∀ (p : Nat) (x : DItem), items[p]? = some x → StepD r x (E p) (HS p) (Hf p) (V p) (E (p + 1)) (HS (p + 1)) (Hf (p + 1))
  | [], env, hs, h, z, h', hev => by
    simp only [evalD, R.ok.injEq] at hev
    obtain ⟨rfl, rfl⟩ := hev
    exact ⟨fun _ => env, fun _ => hs, fun _ => h, fun _ => .undef, rfl, rfl, rfl, rfl, rfl, by intro p x hx; simp at hx⟩
  | y :: items, env, hs, h, z, h', hev => by
    simp only [evalD] at hev
    split at hev
    · rename_i env1 hs1 h1 hst
      obtain ⟨v, hv⟩ := stepD_inv hst
      obtain ⟨E, HS, Hf, V, e1, e2, e3, e4, e5, e6⟩ := evalD_trace' hev
      refine ⟨fun p => match p with | 0 => env | p + 1 => E p, fun p => match p with | 0 => hs | p + 1 => HS p, fun p => match p with | 0 => h | p + 1 => Hf p, fun p => match p with | 0 => v | p + 1 => V p, rfl, rfl, rfl, e4, e5, ?_⟩
      intro p x hx
      cases p with
      | zero =>
        simp only [List.getElem?_cons_zero, Option.some.injEq] at hx
        subst hx
        simp only [e1, e2, e3]
        exact hv
      | succ p =>
        simp only [List.getElem?_cons_succ] at hx
        exact e6 p x hx
    · cases hev

theorem evalD_trace {env : Env} {h : Heap} {z : Env × List Heap} {h' : Heap} (hev : evalD r items env [h] h = .ok z h') : ∃ (E : Nat → Env) (HS : Nat → List Heap) (Hf : Nat → Heap) (V : Nat → AV), Trace r items env h E HS Hf V ∧ E items.length = z.1 ∧ Hf items.length = h' := by
  obtain ⟨E, HS, Hf, V, e1, e2, e3, e4, e5, e6⟩ := evalD_trace' hev
  exact ⟨E, HS, Hf, V, ⟨e1, e2, e3, e6⟩, e4, e5⟩

variable {env : Env} {h : Heap} {E : Nat → Env} {HS : Nat → List Heap} {Hf : Nat → Heap} {V : Nat → AV}

theorem StepD.next (hrec : RecNext r) {hs hs' : List Heap} {env env' : Env} {h h' : Heap} {v : AV} (hs : StepD r x env hs h v env' hs' h') : h.next.nat ≤ h'.next.nat := by
  obtain ⟨_, h1 | ⟨_, h1⟩⟩ := hs
  · rw [h1.2.2.1]; exact Nat.le_refl _
  · split at h1
    · exact evalOp_next' hrec h1.1
    · obtain ⟨_, _, _, _, _, _, e, _⟩ := h1
      rw [e]; exact Nat.le_refl _
    · exact evalOp_next' hrec h1.1

theorem Trace.next (hrec : RecNext r) (T : Trace r items env h E HS Hf V) {p : Nat} : ∀ (q : Nat), p ≤ q → q ≤ items.length → (Hf p).next.nat ≤ (Hf q).next.nat
  | 0, hpq, _ => by rw [Nat.le_zero.1 hpq]; exact Nat.le_refl _
  | q + 1, hpq, hq => by
    by_cases e : p = q + 1
    · rw [e]; exact Nat.le_refl _
    · exact Nat.le_trans (T.next hrec q (by omega) (by omega)) ((T.step q _ (List.getElem?_eq_getElem (by omega))).next hrec)

/-- How many of those that write stand from one place to another. -/
def cntE (items : List DItem) (m : Nat) : Nat → Nat
  | 0 => 0
  | p + 1 => if m ≤ p ∧ (items[p]?.map fun x => isE x.cls) = some true then cntE items m p + 1 else cntE items m p

theorem cntE_small {m : Nat} : ∀ {p : Nat}, p ≤ m → cntE items m p = 0
  | 0, _ => rfl
  | p + 1, h => by
    simp only [cntE]
    rw [if_neg (by omega), cntE_small (by omega)]

/-- Memory as the last one that wrote left it, and as those before left it. -/
theorem Trace.snap (T : Trace r items env h E HS Hf V) {m : Nat} (hm : m = 0 ∨ ∃ x, items[m - 1]? = some x ∧ isE x.cls = true) : ∀ p, m ≤ p → p ≤ items.length → (HS p)[cntE items m p]? = some (Hf m)
  | 0, hp, _ => by
    obtain rfl : m = 0 := by omega
    simp [cntE, T.hs0, T.h0]
  | p + 1, hp, hl => by
    have hst := T.step p _ (List.getElem?_eq_getElem (by omega))
    by_cases e : m = p + 1
    · subst e
      rw [cntE_small (Nat.le_refl _)]
      rcases hm with hm | ⟨x, hx, hxe⟩
      · omega
      · simp only [Nat.add_sub_cancel] at hx
        rw [List.getElem?_eq_getElem (by omega)] at hx
        simp only [Option.some.injEq] at hx
        rw [hx] at hst
        obtain ⟨_, h1 | ⟨_, h1⟩⟩ := hst
        · rw [h1.2.2.2, hxe, h1.2.2.1]; rfl
        · have : x.cls = .e := by cases hc : x.cls <;> simp [hc, isE] at hxe; rfl
          rw [this] at h1
          rw [h1.2]; rfl
    · have ih := T.snap hm p (by omega) (by omega)
      simp only [cntE]
      have hlt : p < items.length := by omega
      rw [List.getElem?_eq_getElem hlt]
      simp only [Option.map_some, Option.some.injEq]
      cases hc : isE (items[p]'hlt).cls with
      | true =>
        rw [if_pos ⟨by omega, rfl⟩]
        have hce : (items[p]'hlt).cls = .e := by cases hc2 : (items[p]'hlt).cls <;> simp [hc2, isE] at hc; rfl
        have : ∃ h2, HS (p + 1) = h2 :: HS p := by
          obtain ⟨_, h1 | ⟨_, h1⟩⟩ := hst
          · exact ⟨_, by rw [h1.2.2.2, hc]; rfl⟩
          · rw [hce] at h1; exact ⟨_, h1.2⟩
        obtain ⟨h2, e2⟩ := this
        rw [e2]
        simpa using ih
      | false =>
        rw [if_neg (by simp)]
        have : HS (p + 1) = HS p := by
          obtain ⟨_, h1 | ⟨_, h1⟩⟩ := hst
          · rw [h1.2.2.2, hc]; rfl
          · split at h1
            · rename_i hce; rw [hce] at hc; cases hc
            · obtain ⟨_, _, _, _, _, _, _, e3⟩ := h1; exact e3
            · exact h1.2
        rw [this]
        exact ih

/-- Where a reading one may stand, as far as those that write go. -/
theorem cntE_back {m : Nat} {mask : Nat} : ∀ (p : Nat), p ≤ items.length → (∀ (q : Nat) (z : DItem), m ≤ q → q < p → items[q]? = some z → isE z.cls = true → inMask mask z.ix = false) → cntE items m p ≤ backE mask ((items.take p).reverse.map DItem.pair)
  | 0, _, _ => by simp [cntE]
  | p + 1, hp, hn => by
    have ih := cntE_back (m := m) (mask := mask) p (by omega) (fun q z h1 h2 => hn q z h1 (by omega))
    have hlt : p < items.length := by omega
    rw [List.take_succ_eq_append_getElem hlt]
    simp only [List.reverse_append, List.reverse_cons, List.reverse_nil, List.nil_append, List.singleton_append, List.map_cons, DItem.pair, backE, cntE]
    rw [List.getElem?_eq_getElem hlt]
    simp only [Option.map_some, Option.some.injEq]
    cases hc : isE (items[p]'hlt).cls with
    | false => rw [if_neg (by simp)]; exact ih
    | true =>
      simp only
      by_cases hmp : m ≤ p
      · rw [if_pos ⟨hmp, trivial⟩, hn p _ hmp (by omega) (List.getElem?_eq_getElem hlt) hc]
        exact Nat.add_le_add_right ih 1
      · rw [if_neg (by omega), cntE_small (by omega)]
        exact Nat.zero_le _

theorem beqAV_str {a b : List Nat} (h : eqStr a b = true) : a = b := by
  rw [eqStr_eq] at h; simpa using h

mutual
theorem beqAV_eq : ∀ {a b : AV}, beqAV a b = true → a = b
  | a, b, h => by
    unfold beqAV at h
    split at h
    · rfl
    · rename_i a b; cases a <;> cases b <;> first | rfl | cases h
    · split at h
      · rename_i e; rw [eqI_eq] at h; rw [eqKind_eq e, eq_of_beq h]
      · cases h
    · rw [beqAV_str h]
    · rfl
    · split at h
      · rename_i e; rw [Pos.beq_eq e, Nat.eq_of_beq_eq_true h]
      · cases h
    · rfl
    · split at h
      · rename_i e1 e2 e3; rw [Pos.beq_eq e1, Nat.eq_of_beq_eq_true e2, Nat.eq_of_beq_eq_true e3, Nat.eq_of_beq_eq_true h]
      · rename_i e1 e2 e3; rw [Pos.beq_eq e1, Nat.eq_of_beq_eq_true e2, Nat.eq_of_beq_eq_true e3, Nat.eq_of_beq_eq_true h]
      · cases h
    · rfl
    · rw [Pos.beq_eq h]
    · rfl
    · split at h
      · rename_i e1
        split at h
        · rename_i e2; rw [Pos.beq_eq e1, beqAVs_eq e2, beqAVs_eq h]
        · cases h
      · cases h
    · rw [Pos.beq_eq h]
    · rfl
    · rw [beqAVs_eq h]
    · rw [beqAVs_eq h]
    · cases h
theorem beqAVs_eq : ∀ {a b : List AV}, beqAV.beqAVs a b = true → a = b
  | [], [], _ => rfl
  | [], _ :: _, h => by simp [beqAV.beqAVs] at h
  | _ :: _, [], h => by simp [beqAV.beqAVs] at h
  | x :: l, y :: m, h => by
    simp only [beqAV.beqAVs] at h
    split at h
    · rename_i e; rw [beqAV_eq e, beqAVs_eq h]
    · cases h
end

theorem recheck_get {env : Env} {op : AOp} {v : AV} : ∀ {k : Nat} {hs : List Heap}, recheck r env op v k hs = true → ∀ d h0, d < k → hs[d]? = some h0 → ∃ hx, evalOp r env h0 op = .ok v hx
  | 0, _, _, d, _, hd, _ => absurd hd (Nat.not_lt_zero _)
  | k + 1, [], h, _, _, _, _ => by simp [recheck] at h
  | k + 1, h1 :: hs, h, d, h0, hd, hg => by
    simp only [recheck] at h
    split at h
    · rename_i u hx e
      split at h
      · rename_i hb
        cases d with
        | zero =>
          simp only [List.getElem?_cons_zero, Option.some.injEq] at hg
          subst hg
          exact ⟨hx, by rw [e, beqAV_eq hb]⟩
        | succ d => exact recheck_get h d h0 (by omega) (by simpa using hg)
      · cases h
    · cases h

end
end Go.Am

