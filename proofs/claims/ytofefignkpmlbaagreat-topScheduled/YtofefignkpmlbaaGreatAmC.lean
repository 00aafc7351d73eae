/- An abstract machine for Go code and its soundness over the model; no condition of its own. Used by the proof that the law TopScheduled returns true at every input. -/
import Derived.Test.YtofefignkpmlbaaGreatAmB
namespace Go.Am

section
variable {α : Type}

def PT.or : PT α → PT α → PT α
  | .E, t => t
  | .N l o r, .E => .N l o r
  | .N l o r, .N l' o' r' => .N (PT.or l l') (match o with | some x => some x | none => o') (PT.or r r')

def PT.diff : PT α → PT α → PT α
  | .E, _ => .E
  | .N l o r, .E => .N l o r
  | .N l o r, .N l' o' r' => .N (PT.diff l l') (match o' with | some _ => none | none => o) (PT.diff r r')

theorem PT.get_or : ∀ (p : Pos) (a b : PT α), PT.get p (PT.or a b) = match PT.get p a with | some x => some x | none => PT.get p b
  | p, .E, b => by simp [PT.or]
  | p, .N l o r, .E => by simp only [PT.or, PT.get_E]; split <;> simp_all
  | .H, .N l o r, .N l' o' r' => by simp only [PT.or, PT.get]
  | .O p, .N l o r, .N l' o' r' => by simp only [PT.or, PT.get]; exact PT.get_or p l l'
  | .I p, .N l o r, .N l' o' r' => by simp only [PT.or, PT.get]; exact PT.get_or p r r'

theorem PT.get_diff : ∀ (p : Pos) (a b : PT α), PT.get p (PT.diff a b) = match PT.get p b with | some _ => none | none => PT.get p a
  | p, .E, b => by simp only [PT.diff, PT.get_E]; split <;> rfl
  | p, .N l o r, .E => by simp [PT.diff]
  | .H, .N l o r, .N l' o' r' => by simp only [PT.diff, PT.get]
  | .O p, .N l o r, .N l' o' r' => by simp only [PT.diff, PT.get]; exact PT.get_diff p l l'
  | .I p, .N l o r, .N l' o' r' => by simp only [PT.diff, PT.get]; exact PT.get_diff p r r'
end

section
variable {C : Cx} {L : Lay} {S S' : Nat → Prop} {e e' : Env} {p q m : Nat} {x y : DItem} {ρ : Map} {H h h' : Heap} {F : Nat → Option FObj} {w : World} {a : Act} {b : Frame} {r : Rec} {o : Oper} {v : AV} {nt : Nat}

theorem EntR.perm {es es' : List (AV × AV)} (hp : es.Perm es') : ∀ {l : List MapEntry}, EntR ρ es l → ∃ l', l'.Perm l ∧ EntR ρ es' l' := by
  induction hp with
  | nil => intro l h; exact ⟨l, List.Perm.refl _, h⟩
  | cons x _ ih =>
    obtain ⟨k, v⟩ := x
    intro l h
    obtain ⟨e, l1, rfl, h1, h2, h3⟩ := h
    obtain ⟨l2, h4, h5⟩ := ih h3
    exact ⟨e :: l2, h4.cons e, e, l2, rfl, h1, h2, h5⟩
  | swap x y l0 =>
    obtain ⟨k, v⟩ := x
    obtain ⟨k', v'⟩ := y
    intro l h
    obtain ⟨e, l1, rfl, h1, h2, e', l2, rfl, h3, h4, h5⟩ := h
    exact ⟨e' :: e :: l2, List.Perm.swap _ _ _, e', e :: l2, rfl, h3, h4, e, l2, rfl, h1, h2, h5⟩
  | trans _ _ ih1 ih2 =>
    intro l h
    obtain ⟨l1, h1, h2⟩ := ih1 h
    obtain ⟨l2, h3, h4⟩ := ih2 h2
    exact ⟨l2, h3.trans h1, h4⟩

theorem Apart.perm {q : EqK} (hq : q.key = true) {es es' : List (AV × AV)} (hp : es.Perm es') : Apart q es → Apart q es' := by
  induction hp with
  | nil => exact id
  | cons x hp ih =>
    obtain ⟨k, v⟩ := x
    rintro ⟨h1, h2⟩
    exact ⟨fun y hy => h1 y (hp.mem_iff.2 hy), ih h2⟩
  | swap x y l0 =>
    obtain ⟨k, v⟩ := x
    obtain ⟨k', v'⟩ := y
    rintro ⟨h1, h2, h3⟩
    refine ⟨?_, fun z hz => h1 z (by simp [hz]), h3⟩
    intro z hz
    rcases List.mem_cons.1 hz with rfl | hz
    · exact same_comm hq (h1 (k, v) (by simp))
    · exact h2 z hz
  | trans _ _ ih1 ih2 => exact fun h => ih2 (ih1 h)

theorem ObjR.perm {l : Loc} {q : EqK} {es es' : List (AV × AV)} (hq : q.key = true) (hp : es.Perm es') (h : ObjR C ρ w l (.map q es)) : ObjR C ρ w l (.map q es') := by
  simp only [ObjR] at h ⊢
  obtain ⟨ms, clock, l0, h1, h2, h3, h4⟩ := h
  obtain ⟨l1, h5, h6⟩ := h3.perm hp
  exact ⟨ms, clock, l1, h1, h5.trans h2, h6, h4.perm hq hp⟩

/-- All done: memory is that of the order laid. -/
theorem Lay.same_heap (ok : L.OK C) (hr : HR C ρ H F w) (hc : L.Cont S m H.t) (hc' : L.Cont S' m h'.t) (hS : ∀ p, p < L.items.length → S p ∧ S' p) (hb : Below h') : HR C ρ h' F w := by
  have key : ∀ b o1, PT.get b h'.t = some o1 → ∃ o2, PT.get b H.t = some o2 ∧ (∀ l, ObjR C ρ w l o2 → ObjR C ρ w l o1) ∧ ∀ cs, o2 = .cells cs none → o1 = o2 := by
    intro b o1 e1
    rcases hc'.only b o1 e1 with h1 | ⟨p, o, h1, h2, h3, h4⟩
    · exact ⟨o1, hc.old b o1 h1, fun _ h => h, fun _ _ => rfl⟩
    · have hlt : p < L.items.length := by obtain ⟨x, hx, _⟩ := h3; exact lt_of_get hx
      obtain ⟨o2, g1, g2⟩ := hc.made p b o h1 (hS p hlt).1 h3
      refine ⟨o2, g1, ?_⟩
      unfold Lay.Now at h4 g2
      split at h4
      · rename_i q
        simp only at g2
        obtain ⟨J, j1, j2, rfl⟩ := h4
        obtain ⟨J', k1, k2, rfl⟩ := g2
        have hperm : J'.Perm J := by
          rw [List.perm_ext_iff_of_nodup k1 j1]
          intro j
          rw [j2 j, k2 j]
          constructor
          · rintro ⟨_, h6⟩
            have hj : j < L.items.length := by obtain ⟨x, _, _, _, _, _, hx, _⟩ := h6; exact lt_of_get hx
            exact ⟨(hS j hj).2, h6⟩
          · rintro ⟨_, h6⟩
            have hj : j < L.items.length := by obtain ⟨x, _, _, _, _, _, hx, _⟩ := h6; exact lt_of_get hx
            exact ⟨(hS j hj).1, h6⟩
        refine ⟨?_, fun cs e => by cases e⟩
        intro l hl
        cases J with
        | nil =>
          have : J' = [] := hperm.eq_nil
          rw [this] at hl
          exact hl
        | cons j J =>
          have hej := ((j2 j).1 (by simp)).2
          have hej' := hej
          obtain ⟨xj, yj, _, _, _, _, s1, s2, s3, _⟩ := hej'
          obtain ⟨a, y, d, k, key, v, t1, t2, t3, t4, t5, t6, t7, t8, t9, t10⟩ := Lay.target ok s1 s2
          have hap : a = p := Lay.EntOf.one ok (p := j) ⟨xj, y, d, k, key, v, s1, s2, t2, t3, t6, t7⟩ hej
          subst hap
          have := (h3.fun (Lay.lit ok t2 t3 t4 t5).2).2
          cases this
          exact hl.perm t10 (hperm.map _)
      · have h4' : o1 = o := h4
        have g2' : o2 = o := by
          revert g2
          cases o with
          | map q es => cases es with
            | nil => intro _; rename_i hno _; exact absurd rfl (hno q)
            | cons _ _ => exact id
          | _ => exact id
        rw [h4', g2']
        exact ⟨fun _ h => h, fun _ _ => rfl⟩
  refine ⟨?_, ?_, hr.frame, ?_, hb⟩
  · intro b o e
    obtain ⟨o2, g1, g2, _⟩ := key b o e
    obtain ⟨l, h1, h2⟩ := hr.live b o2 g1
    exact ⟨l, h1, g2 l h2⟩
  · intro b b' o o' l l' e e' h1 h2 h3
    obtain ⟨o2, g1, _⟩ := key b o e
    obtain ⟨o3, g3, _⟩ := key b' o' e'
    exact hr.inj b b' o2 o3 l l' g1 g3 h1 h2 h3
  · intro c o b ob l h1 h2 h3
    obtain ⟨o2, g1, _, g2⟩ := key b ob h2
    have h4 := hr.apart c o b o2 l h1 g1 h3
    cases o with
    | ex _ => exact h4
    | part lo hi c0 e0 z0 =>
      intro hc
      obtain ⟨cs, h5, h6⟩ := h4 hc
      exact ⟨cs, (g2 cs h5).trans h5, h6⟩

/-- An operation that rests on a part of memory. -/
theorem run_part (ok : C.OK) (hrec : RecOK C r) {ops : Array Oper} {i : Nat} {ao : AOper} {hx hx' : Heap} {rest : List Nat} {k : List Item} {cs : List Frame} (ho : ops[i]? = some o) (htr : trOper C.ty C.ib nt ops o = some ao)
    (hev : evalOp r e hx ao.op = .ok v hx') (hw : wanted e ao.guard = some true) (hr : HR C ρ H F w) (hsub : ∀ b o, PT.get b hx.t = some o → PT.get b H.t = some o) (hbelow : Below hx) (he : EnvR ρ e b a nt) (hf : Fr ρ hx.next hx'.next) (hcalm : Calm b.kind cs) :
    ∃ ρ' a' w', Out ρ ρ' hx.next hx'.next ∧ EnvR ρ' (putV ao.dst v e) b a' nt ∧ Same w w' ∧ Below hx' ∧
      Steps C.P (lone (b.atR a (.inRegion ops (i :: rest) :: k)) cs w) (lone (b.atR a' (.inRegion ops rest :: k)) cs w') ∧
      ∀ H' : Heap, (∀ b o, PT.get b H'.t = some o → PT.get b hx'.t = some o ∨ (PT.get b H.t = some o ∧ PT.get b hx.t = none)) → Below H' → HR C ρ' H' F w' := by
  obtain ⟨hop, hdst⟩ := trOper_inv htr
  have hwd := wanted_good he htr hw
  obtain ⟨_, ρ', u, w', h1, h2, h3, h4, h5⟩ := op_sim ok hrec hop hev (hr.part hsub hbelow) he hf hcalm ho hwd (rest := rest) (k := k)
  have hext := h1.ext hf
  exact ⟨ρ', _, w', h1, (he.mono hext).put hdst h2, h4, h3.below, h5, fun H' hall hb => hr.back hsub hext h3 hall hb⟩

end
end Go.Am

namespace Go.Am
section
variable {C : Cx} {L : Lay} {S S' : Nat → Prop} {e e' : Env} {p q m : Nat} {x y : DItem} {ρ : Map} {H h h' : Heap} {F : Nat → Option FObj} {w : World} {a : Act} {b : Frame} {r : Rec} {o : Oper} {v : AV} {nt : Nat}

/-- Where some are done. -/
structure Lay.Inv (C : Cx) (L : Lay) (S : Nat → Prop) (m : Nat) (ρ : Map) (H : Heap) (F : Nat → Option FObj) (w : World) (e : Env) (b : Frame) (a : Act) : Prop where
  hr : HR C ρ H F w
  next : H.next = (L.Hf L.items.length).next
  bound : L.Bound m
  len : m ≤ L.items.length
  below : Below (L.Hf m)
  cont : L.Cont S m H.t
  free : ∀ p, p < L.items.length → ¬ S p → Fr ρ (L.Hf p).next (L.Hf (p + 1)).next
  envS : L.EnvS S e
  env : EnvR ρ e b a L.nt
  closed : L.Closed S
  before : ∀ q, q < m → S q
  behind : ∀ (q : Nat) (z : DItem), m ≤ q → S q → L.items[q]? = some z → isE z.cls = false

theorem Lay.Closed.also (hc : L.Closed S) (hx : L.items[p]? = some x) (hrd : L.Ready S x) : L.Closed (also p S) := by
  rintro q q' y z (rfl | hq) hy hz hm
  · rw [hx] at hy; cases hy; exact .inr (hrd q' z hz hm)
  · exact .inr (hc q q' y z hq hy hz hm)

theorem Lay.free_also (ok : L.OK C) {ρ' : Map} (hf : ∀ p, p < L.items.length → ¬ S p → Fr ρ (L.Hf p).next (L.Hf (p + 1)).next) (hp : p < L.items.length) (ho : Out ρ ρ' (L.Hf p).next (L.Hf (p + 1)).next) :
    ∀ q, q < L.items.length → ¬ also p S q → Fr ρ' (L.Hf q).next (L.Hf (q + 1)).next := by
  intro q hq hs c h1 h2
  have hqp : q ≠ p := fun e => hs (.inl e)
  rw [ho c]
  · exact hf q hq (fun h => hs (.inr h)) c h1 h2
  · rcases Nat.lt_or_gt_of_ne hqp with h | h
    · have := ok.trace.next ok.good.next (p := q + 1) p (by omega) (by omega)
      omega
    · have := ok.trace.next ok.good.next (p := p + 1) q (by omega) (by omega)
      omega

/-- One that does not write is done. -/
theorem Lay.Inv.light (ok : L.OK C) (inv : L.Inv C S m ρ H F w e b a) (hx : L.items[p]? = some x) (hp : ¬ S p) (hrd : L.Ready S x) (hE : isE x.cls = false)
    {ρ' : Map} {H' : Heap} {w' : World} {a' : Act} (ho : Out ρ ρ' (L.Hf p).next (L.Hf (p + 1)).next) (hr : HR C ρ' H' F w') (hn : H'.next = H.next) (hc : L.Cont (also p S) m H'.t) (he : EnvR ρ' (putV x.o.dst (L.V p) e) b a' L.nt) :
    L.Inv C (also p S) m ρ' H' F w' (putV x.o.dst (L.V p) e) b a' := by
  refine ⟨hr, hn.trans inv.next, inv.bound, inv.len, inv.below, hc, Lay.free_also ok inv.free (lt_of_get hx) ho, inv.envS.put hx, he, inv.closed.also hx hrd, fun q hq => .inr (inv.before q hq), ?_⟩
  rintro q z h1 (rfl | h2) h3
  · rw [hx] at h3; cases h3; exact hE
  · exact inv.behind q z h1 h2 h3

theorem Out.refl' {ρ : Map} {n n' : Pos} : Out ρ ρ n n' := fun _ _ => rfl

theorem Out.eq {ρ ρ' : Map} {n : Pos} (h : Out ρ ρ' n n) : ρ' = ρ := by
  funext c
  exact h c (by omega)

/-- One that writes is done. -/
theorem Lay.Inv.heavy (ok : L.OK C) (inv : L.Inv C S m ρ H F w e b a) (hx : L.items[p]? = some x) (hp : ¬ S p) (hrd : L.Ready S x) (hE : isE x.cls = true)
    {ρ' : Map} {H' : Heap} {w' : World} {a' : Act} (ho : Out ρ ρ' (L.Hf p).next (L.Hf (p + 1)).next) (hr : HR C ρ' H' F w') (hn : H'.next = H.next) (hb : Below (L.Hf (p + 1)))
    (ht : ∀ c, PT.get c H'.t = match PT.get c (L.Hf (p + 1)).t with | some o => some o | none => match PT.get c (L.Hf p).t with | some _ => none | none => PT.get c H.t)
    (he : EnvR ρ' (putV x.o.dst (L.V p) e) b a' L.nt) :
    L.Inv C (also p S) (p + 1) ρ' H' F w' (putV x.o.dst (L.V p) e) b a' := by
  have hlt := lt_of_get hx
  have hnoI : ∀ j c, ¬ L.EntOf j c := by
    intro j c hj
    obtain ⟨xj, _, _, _, _, _, g1, g2, _⟩ := hj
    rw [Lay.noER ok g1 g2 hx] at hE; cases hE
  have hall : ∀ q, q < p → S q := by
    intro q hq
    have hy := List.getElem?_eq_getElem (l := L.items) (i := q) (by omega)
    rcases okPair_m (ok.stat.pair q p _ x hq hy hx) with h | ⟨_, _, h⟩
    · exact hrd q _ hy h
    · rw [hE] at h; cases h
  have hmp : m ≤ p := by
    rcases Nat.lt_or_ge p m with h | h
    · exact absurd (inv.before p h) hp
    · exact h
  obtain ⟨c1, c2⟩ := Lay.canon ok inv.bound inv.below p hmp (by omega) (fun q z h1 h2 h3 => inv.behind q z h1 (hall q h2) h3)
  have hnow : ∀ {S : Nat → Prop} {q : Nat} {o o' : AObj}, L.Now S q o o' ↔ o' = o := fun {S q o o'} => Lay.Now.noent (fun j _ => hnoI j q)
  refine ⟨hr, hn.trans inv.next, .inr ⟨x, by simpa using hx, hE⟩, by omega, hb, ⟨?_, ?_, ?_⟩, Lay.free_also ok inv.free hlt ho, inv.envS.put hx, he, inv.closed.also hx hrd, ?_, ?_⟩
  · intro c o h1
    rw [ht c, h1]
  · rintro q c o h1 (rfl | h2) h3
    · omega
    · obtain ⟨o', g1, g2⟩ := inv.cont.made q c o (by omega) h2 h3
      refine ⟨o', ?_, hnow.2 (hnow.1 g2)⟩
      have hc := (h3.next ok).2
      have e1 : PT.get c (L.Hf (p + 1)).t = none := by
        cases hg : PT.get c (L.Hf (p + 1)).t with
        | none => rfl
        | some z =>
          have k1 := hb c z hg
          have k2 := ok.trace.next ok.good.next (p := p + 1) q h1 (Nat.le_of_lt (by obtain ⟨xq, hq, _⟩ := h3; exact lt_of_get hq))
          rw [hc] at k1; omega
      have e2 : PT.get c (L.Hf p).t = none := by
        cases hg : PT.get c (L.Hf p).t with
        | none => rfl
        | some z =>
          have k1 := c1 c z hg
          have k2 := ok.trace.next ok.good.next (p := p) q (by omega) (Nat.le_of_lt (by obtain ⟨xq, hq, _⟩ := h3; exact lt_of_get hq))
          rw [hc] at k1; omega
      rw [ht c, e1, e2]
      exact g1
  · intro c o' h1
    rw [ht c] at h1
    split at h1
    · rename_i o h2
      cases h1
      exact .inl h2
    · split at h1
      · cases h1
      · rename_i h2 h3
        rcases inv.cont.only c o' h1 with g1 | ⟨q, o, g1, g2, g3, g4⟩
        · rw [c2.old c o' g1] at h3; cases h3
        · rcases Nat.lt_trichotomy q p with h4 | h4 | h4
          · obtain ⟨o2, k1, _⟩ := c2.made q c o g1 h4 g3
            rw [k1] at h3; cases h3
          · subst h4; exact absurd g2 hp
          · exact .inr ⟨q, o, h4, .inr g2, g3, hnow.2 (hnow.1 g4)⟩
  · intro q hq
    by_cases h : q = p
    · exact .inl h
    · exact .inr (hall q (by omega))
  · rintro q z h1 (rfl | h2) h3
    · omega
    · exact inv.behind q z (by omega) h2 h3

/-- What is live where one that writes begins, is live. -/
theorem Lay.Inv.sub (ok : L.OK C) (inv : L.Inv C S m ρ H F w e b a) (hx : L.items[p]? = some x) (hp : ¬ S p) (hrd : L.Ready S x) (hE : isE x.cls = true) : Below (L.Hf p) ∧ ∀ c o, PT.get c (L.Hf p).t = some o → PT.get c H.t = some o := by
  have hlt := lt_of_get hx
  have hnoI : ∀ j c, ¬ L.EntOf j c := by
    intro j c hj
    obtain ⟨xj, _, _, _, _, _, g1, g2, _⟩ := hj
    rw [Lay.noER ok g1 g2 hx] at hE; cases hE
  have hall : ∀ q, q < p → S q := by
    intro q hq
    have hy := List.getElem?_eq_getElem (l := L.items) (i := q) (by omega)
    rcases okPair_m (ok.stat.pair q p _ x hq hy hx) with h | ⟨_, _, h⟩
    · exact hrd q _ hy h
    · rw [hE] at h; cases h
  have hmp : m ≤ p := by
    rcases Nat.lt_or_ge p m with h | h
    · exact absurd (inv.before p h) hp
    · exact h
  obtain ⟨c1, c2⟩ := Lay.canon ok inv.bound inv.below p hmp (by omega) (fun q z h1 h2 h3 => inv.behind q z h1 (hall q h2) h3)
  have hnow : ∀ {S : Nat → Prop} {q : Nat} {o o' : AObj}, L.Now S q o o' ↔ o' = o := fun {S q o o'} => Lay.Now.noent (fun j _ => hnoI j q)
  refine ⟨c1, ?_⟩
  intro c o h1
  rcases c2.only c o h1 with g1 | ⟨q, o2, g1, g2, g3, g4⟩
  · exact inv.cont.old c o g1
  · obtain ⟨o3, k1, k2⟩ := inv.cont.made q c o2 g1 (hall q g2) g3
    rw [hnow.1 g4, ← hnow.1 k2]
    exact k1

/-- One more. -/
theorem Lay.Inv.run (okC : C.OK) (ok : L.OK C) (inv : L.Inv C S m ρ H F w e b a) (hx : L.items[p]? = some x) (hp : ¬ S p) (hrd : L.Ready S x) {rest : List Nat} {k : List Item} {cs : List Frame} (hcalm : Calm b.kind cs) :
    ∃ m' ρ' H' w' e' a', L.Inv C (also p S) m' ρ' H' F w' e' b a' ∧ Out ρ ρ' (L.Hf p).next (L.Hf (p + 1)).next ∧ Same w w' ∧
      Steps C.P (lone (b.atR a (.inRegion L.ops (x.ix :: rest) :: k)) cs w) (lone (b.atR a' (.inRegion L.ops rest :: k)) cs w') := by
  have hlt := lt_of_get hx
  have hst := ok.trace.step p x hx
  obtain ⟨o, ho, htr⟩ := ok.stat.found x (List.mem_of_getElem? hx)
  have hag := Lay.agree ok inv.closed inv.envS hx hp hrd
  have hwe := wanted_congr hag
  have hround : e.round = (L.E p).round := by rw [inv.envS.1, (Lay.env_prefix ok p (by omega)).1]
  have hcongr : ∀ {hx : Heap}, evalOp L.r e hx x.o.op = evalOp L.r (L.E p) hx x.o.op := fun {_} => evalOp_congr hround hag.op
  have hmp : m ≤ p := by
    rcases Nat.lt_or_ge p m with h | h
    · exact absurd (inv.before p h) hp
    · exact h
  have hfree := inv.free p hlt hp
  have hmono := ok.trace.next ok.good.next (p := p) (p + 1) (by omega) (by omega)
  have hmono2 := ok.trace.next ok.good.next (p := p + 1) L.items.length (by omega) (Nat.le_refl _)
  have hnoI : ∀ {j : Nat} {xj : DItem}, L.items[j]? = some xj → xj.cls ≠ .i → ∀ c, ¬ L.EntOf j c := fun h1 h2 c => Lay.noent_of h1 h2 c
  rcases hst.2 with ⟨hw, hv, h1, _⟩ | ⟨hw, h1⟩
  · -- it is skipped
    rw [← hwe] at hw
    have hwd := wanted_good inv.env htr hw
    obtain ⟨hop, hdst⟩ := trOper_inv htr
    have hstep := stepR_op_skip (P := C.P) (b := b) (a := a) (k := k) (cs := cs) (w := w) (ops := L.ops) (i := x.ix) (rest := rest) (by rw [ho]; simpa using hwd)
    rw [ho] at hstep
    have he2 : EnvR ρ (putV x.o.dst (L.V p) e) b (a.put o.dst undef) L.nt := by
      rw [hv]
      exact inv.env.put hdst VR.none
    cases hE : isE x.cls with
    | false =>
      refine ⟨m, ρ, H, w, _, _, inv.light ok hx hp hrd hE Out.refl' inv.hr rfl (inv.cont.skip (hnoI hx ?_) ?_) he2, Out.refl', Same.refl w, .one hstep⟩
      · intro hi
        obtain ⟨_, _, _, _, _, _, _, _, _, _, _, _, _, t8, _⟩ := Lay.target ok hx hi
        rw [t8] at hw; cases hw
      · rintro c ob ⟨x', g1, _, g2, _⟩
        rw [hx] at g1; cases g1
        rw [← hwe, hw] at g2; cases g2
    | true =>
      obtain ⟨s1, s2⟩ := inv.sub ok hx hp hrd hE
      refine ⟨p + 1, ρ, H, w, _, _, inv.heavy ok hx hp hrd hE Out.refl' inv.hr rfl (by rw [h1]; exact s1) ?_ he2, Out.refl', Same.refl w, .one hstep⟩
      intro c
      rw [h1]
      cases hg : PT.get c (L.Hf p).t with
      | none => rfl
      | some z => simp only; exact s2 c z hg
  · have hw' := hw
    rw [← hwe] at hw'
    cases hc : x.cls with
    | e =>
      have hE : isE x.cls = true := by rw [hc]; rfl
      rw [hc] at h1
      obtain ⟨hev, _⟩ := h1
      rw [← hcongr] at hev
      obtain ⟨s1, s2⟩ := inv.sub ok hx hp hrd hE
      obtain ⟨ρ', a', w', k1, k2, k3, k4, k5, k6⟩ := run_part (rest := rest) (k := k) okC ok.good ho htr hev hw' inv.hr s2 s1 inv.env hfree hcalm
      let H' : Heap := ⟨PT.or (L.Hf (p + 1)).t (PT.diff H.t (L.Hf p).t), H.next⟩
      have ht : ∀ c, PT.get c H'.t = match PT.get c (L.Hf (p + 1)).t with | some o => some o | none => match PT.get c (L.Hf p).t with | some _ => none | none => PT.get c H.t := by
        intro c
        show PT.get c (PT.or _ (PT.diff _ _)) = _
        rw [PT.get_or, PT.get_diff]
        cases PT.get c (L.Hf (p + 1)).t with
        | some z => rfl
        | none => cases PT.get c (L.Hf p).t <;> rfl
      have hr' : HR C ρ' H' F w' := by
        refine k6 H' ?_ ?_
        · intro c ob hg
          rw [ht c] at hg
          split at hg
          · rename_i e2; cases hg; exact .inl e2
          · split at hg
            · cases hg
            · rename_i e3; exact .inr ⟨hg, e3⟩
        · intro c ob hg
          rw [ht c] at hg
          show c.nat < H.next.nat
          split at hg
          · rename_i e2
            have := k4 c _ e2
            rw [inv.next]; omega
          · split at hg
            · cases hg
            · exact inv.hr.below c ob hg
      exact ⟨p + 1, ρ', H', w', _, a', inv.heavy ok hx hp hrd hE k1 hr' rfl k4 ht k2, k1, k3, k5⟩
    | v =>
      have hE : isE x.cls = false := by rw [hc]; rfl
      rw [hc] at h1
      obtain ⟨hev, _⟩ := h1
      have hev2 := (pure_of_v (Lay.cls_v ok hx hc) hev).2 ⟨.E, .H⟩
      rw [← hcongr] at hev2
      obtain ⟨ρ', a', w', k1, k2, k3, k4, k5, k6⟩ := run_part (rest := rest) (k := k) okC ok.good ho htr hev2 hw' inv.hr (fun c ob h => by simp at h) (fun c ob h => by simp at h) inv.env (fun c h1 h2 => by omega) hcalm
      cases k1.eq
      refine ⟨m, ρ, H, w', _, a', inv.light ok hx hp hrd hE Out.refl' (k6 H (fun c ob hg => .inr ⟨hg, by simp⟩) inv.hr.below) rfl (inv.cont.skip (hnoI hx (by rw [hc]; simp)) ?_) k2, Out.refl', k3, k5⟩
      rintro c ob ⟨x', g1, g2, _⟩
      rw [hx] at g1; cases g1
      rw [hc] at g2; cases g2
    | r kk =>
      have hE : isE x.cls = false := by rw [hc]; rfl
      rw [hc] at h1
      obtain ⟨h0, hs0, hx0, e1, e2, e3, e4, _⟩ := h1
      obtain ⟨⟨k', hcls⟩, hback⟩ := Lay.cls_r ok hx hc
      have hcnt : cntE L.items m p ≤ kk := Nat.le_trans (cntE_back p (by omega) (fun q z g1 g2 g3 g4 => by
        cases hm : inMask (L.anc.getD x.ix 0) z.ix with
        | false => rfl
        | true =>
          have := inv.behind q z g1 (hrd q z g3 hm) g3
          rw [g4] at this; cases this)) hback
      have hsnap := ok.trace.snap inv.bound p hmp (by omega)
      have hev : ∃ hz, evalOp L.r (L.E p) (L.Hf m) x.o.op = .ok (L.V p) hz := by
        rw [e1] at hsnap
        cases hd : cntE L.items m p with
        | zero =>
          rw [hd] at hsnap
          simp only [List.getElem?_cons_zero, Option.some.injEq] at hsnap
          rw [← hsnap]
          exact ⟨_, e2⟩
        | succ d =>
          rw [hd] at hsnap hcnt
          simp only [List.getElem?_cons_succ] at hsnap
          exact recheck_get e3 d _ (by omega) hsnap
      obtain ⟨hz, hev⟩ := hev
      cases same_of_r hcls hev
      rw [← hcongr] at hev
      obtain ⟨ρ', a', w', k1, k2, k3, k4, k5, k6⟩ := run_part (rest := rest) (k := k) okC ok.good ho htr hev hw' inv.hr inv.cont.old inv.below inv.env (fun c h1 h2 => by omega) hcalm
      cases k1.eq
      refine ⟨m, ρ, H, w', _, a', inv.light ok hx hp hrd hE Out.refl' (k6 H ?_ inv.hr.below) rfl (inv.cont.skip (hnoI hx (by rw [hc]; simp)) ?_) k2, Out.refl', k3, k5⟩
      · intro c ob hg
        cases hgm : PT.get c (L.Hf m).t with
        | none => exact .inr ⟨hg, rfl⟩
        | some z =>
          have := inv.cont.old c z hgm
          rw [hg] at this
          cases this
          exact .inl rfl
      · rintro c ob ⟨x', g1, g2, _⟩
        rw [hx] at g1; cases g1
        rw [hc] at g2; cases g2
    | a =>
      have hE : isE x.cls = false := by rw [hc]; rfl
      obtain ⟨ob, hmade⟩ := Lay.made_of ok hx hc hw
      have hnx := (hmade.next ok).1
      have hmk := hmade
      obtain ⟨x', g1, _, _, _, hmk⟩ := hmk
      rw [hx] at g1; cases g1
      have hev := hmk ⟨.E, (L.Hf p).next⟩ rfl
      rw [← hcongr] at hev
      have hnext : (L.Hf (p + 1)).next = (L.Hf p).next.succ := by rw [hnx]
      obtain ⟨ρ', a', w', k1, k2, k3, k4, k5, k6⟩ := run_part (rest := rest) (k := k) okC ok.good ho htr hev hw' inv.hr (fun c ob h => by simp at h) (fun c ob h => by simp at h) inv.env (by rw [hnext] at hfree; exact hfree) hcalm
      have hnew : PT.get (L.Hf p).next H.t = none := by
        cases hg : PT.get (L.Hf p).next H.t with
        | none => rfl
        | some z =>
          obtain ⟨l, hl, _⟩ := inv.hr.live _ z hg
          rw [hfree _ (Nat.le_refl _) (by rw [hnext, Pos.nat_succ]; omega)] at hl
          cases hl
      let H' : Heap := ⟨PT.set (L.Hf p).next ob H.t, H.next⟩
      have hk1 : Out ρ ρ' (L.Hf p).next (L.Hf (p + 1)).next := by rw [hnext]; exact k1
      refine ⟨m, ρ', H', w', _, a', inv.light ok hx hp hrd hE hk1 (k6 H' ?_ ?_) rfl (inv.cont.mk' (hnoI hx (by rw [hc]; simp)) ?_ hmp hmade hnew (fun c => PT.get_set _ _ _ _)) k2, hk1, k3, k5⟩
      · intro c z hg
        simp only [H', PT.get_set] at hg
        split at hg
        · rename_i hcb; left; simp only [PT.get_set, if_pos hcb]; exact hg
        · exact .inr ⟨hg, by simp⟩
      · intro c z hg
        simp only [H', PT.get_set] at hg
        show c.nat < H.next.nat
        split at hg
        · rename_i hcb
          subst hcb
          rw [inv.next]
          rw [hnext, Pos.nat_succ] at hmono2
          omega
        · exact inv.hr.below c z hg
      · intro j hj hej
        have hej' := hej
        obtain ⟨xj, yj, _, _, _, _, s1, _, s3, _⟩ := hej'
        exact hp (inv.closed j p xj yj hj s1 s3 (Lay.EntOf.before ok hej s1 s3).2)
    | i =>
      have hE : isE x.cls = false := by rw [hc]; rfl
      rw [hc] at h1
      obtain ⟨hev0, _⟩ := h1
      obtain ⟨c, y, d, q, key, vv, t1, t2, t3, t4, t5, t6, t7, t8, t9, t10⟩ := Lay.target ok hx hc
      have hm0 := Lay.bound_zero ok inv.bound hx hc
      subst hm0
      obtain ⟨hV, hmade⟩ := Lay.lit ok t2 t3 t4 t5
      have hent : L.EntOf p c := ⟨x, y, d, q, key, vv, hx, hc, t2, t3, t6, t7⟩
      have hsc : S c := hrd c y t2 t9
      obtain ⟨o', g1, g2⟩ := inv.cont.made c _ _ (Nat.zero_le _) hsc hmade
      have hes : ∃ es, o' = .map q es := by
        unfold Lay.Now at g2
        simp only at g2
        obtain ⟨J, _, _, rfl⟩ := g2
        exact ⟨_, rfl⟩
      obtain ⟨es, rfl⟩ := hes
      have hval : val e.tmps (.t d) = .map (L.Hf c).next := by
        rcases inv.envS.2.2 d with ⟨a', y', k1, k2, k3, k4⟩ | ⟨k1, _⟩
        · have := Lay.dst_one ok k2 t2 k3 t6
          subst this
          simp only [val, k4, hV]
        · exact absurd t6 (k1 c y hsc t2)
      have hkeys := Lay.keys ok (S := S) hx hc t7 hent hp g2
      let hh : Heap := ⟨PT.set (L.Hf c).next (.map q es) .E, H.next⟩
      have hgh : PT.get (L.Hf c).next hh.t = some (.map q es) := PT.get_set_same _ _ _
      have hrun := ins_run (r := L.r) (hx := hh) (v := vv) hval hgh hkeys
      rw [← t7] at hrun
      -- what it yields
      have hVp : L.V p = .tup [] := by
        rw [t7] at hev0
        simp only [evalOp] at hev0
        repeat' split at hev0
        all_goals first
          | (cases hev0; done)
          | (simp only [R.ok.injEq] at hev0; exact hev0.1.symm)
      have hbc : (L.Hf c).next.nat < H.next.nat := inv.hr.below _ _ g1
      obtain ⟨ρ', a', w', k1, k2, k3, k4, k5, k6⟩ := run_part (rest := rest) (k := k) okC ok.good ho htr hrun hw' inv.hr (by
        intro z ob hg
        simp only [hh, PT.get_set, PT.get_E] at hg
        split at hg
        · rename_i hz; subst hz; rw [← hg]; exact g1
        · cases hg) (by
        intro z ob hg
        simp only [hh, PT.get_set, PT.get_E] at hg
        split at hg
        · rename_i hz; subst hz; exact hbc
        · cases hg) inv.env (fun z h1 h2 => absurd h2 (Nat.not_lt.2 h1)) hcalm
      cases k1.eq
      have hvv : val e.tmps vv = val (L.E p).tmps vv := by
        apply val_congr
        intro t ht
        refine hag.op t ?_
        rw [t7]
        simp only [AOp.reads, List.mem_append]
        exact .inr (.inr ht)
      have hent2 : L.ent p = (key, val e.tmps vv) := by
        unfold Lay.ent
        rw [hx]
        simp only [t7, hvv]
      let H' : Heap := ⟨PT.set (L.Hf c).next (.map q (es ++ [L.ent p])) H.t, H.next⟩
      refine ⟨0, ρ, H', w', _, a', inv.light ok hx hp hrd hE Out.refl' (k6 H' ?_ ?_) rfl (inv.cont.ins hp (Nat.zero_le _) hent (fun a' h' => h'.one ok hent) hmade hsc ?_ ?_ ?_ g1 (fun z => PT.get_set _ _ _ _)) (by rw [hVp]; exact k2), Out.refl', k3, k5⟩
      · intro z ob hg
        simp only [H', PT.get_set] at hg
        split at hg
        · rename_i hz
          left
          subst hz
          simp only [hh, PT.get_set, if_pos]
          rw [← hg, hent2]
        · rename_i hz
          right
          refine ⟨hg, ?_⟩
          simp only [hh, PT.get_set, if_neg hz, PT.get_E]
      · intro z ob hg
        simp only [H', PT.get_set] at hg
        show z.nat < H.next.nat
        split at hg
        · rename_i hz; subst hz; exact hbc
        · exact inv.hr.below z ob hg
      · intro q2 c2 o2 _ hq hqa
        exact hq.apart ok hmade hqa
      · cases hg : PT.get (L.Hf c).next (L.Hf 0).t with
        | none => rfl
        | some z =>
          have h2 := inv.below _ z hg
          have h3 := ok.trace.next ok.good.next (p := 0) c (Nat.zero_le _) (by omega)
          omega
      · rintro z ob ⟨x', f1, f2, _⟩
        rw [hx] at f1; cases f1
        rw [hc] at f2; cases f2

end
end Go.Am

