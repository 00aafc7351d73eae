/- An abstract machine for Go code and its soundness over the model; no condition of its own. Used by the proof that the law TopScheduled returns true at every input. -/
import Derived.Test.YtofefignkpmlbaaGreatAmA
namespace Go.Am

/-- A region that draws its order, with what the order laid comes to. -/
structure Lay where
  r : Rec
  nt : Nat
  ops : Array Oper
  anc : List Nat
  items : List DItem
  env : Env
  h : Heap
  E : Nat → Env
  HS : Nat → List Heap
  Hf : Nat → Heap
  V : Nat → AV

structure Lay.OK (C : Cx) (L : Lay) : Prop where
  stat : Stat C L.nt L.ops L.anc L.items
  trace : Trace L.r L.items L.env L.h L.E L.HS L.Hf L.V
  good : RecOK C L.r

section
variable {C : Cx} {L : Lay} {S S' : Nat → Prop} {e e' : Env} {p q m : Nat} {x y : DItem}

/-- One more is done. -/
def also (p : Nat) (S : Nat → Prop) : Nat → Prop := fun q => q = p ∨ S q

theorem also_lt (p : Nat) : also p (· < p) = (· < p + 1) := by
  funext q
  apply propext
  unfold also
  omega

/-- The temporaries where some are done. -/
def Lay.EnvS (L : Lay) (S : Nat → Prop) (e : Env) : Prop :=
  e.round = L.env.round ∧ e.defers = L.env.defers ∧ ∀ t, (∃ p x, S p ∧ L.items[p]? = some x ∧ x.o.dst = some t ∧ PT.get t e.tmps = some (L.V p)) ∨
    ((∀ (p : Nat) (x : DItem), S p → L.items[p]? = some x → x.o.dst ≠ some t) ∧ PT.get t e.tmps = PT.get t L.env.tmps)

theorem Lay.EnvS.put (h : L.EnvS S e) (hx : L.items[p]? = some x) : L.EnvS (also p S) (putV x.o.dst (L.V p) e) := by
  obtain ⟨h1, h2, h3⟩ := h
  refine ⟨by unfold putV; split <;> exact h1, by unfold putV; split <;> exact h2, ?_⟩
  intro t
  by_cases hd : x.o.dst = some t
  · left
    refine ⟨p, x, .inl rfl, hx, hd, ?_⟩
    rw [hd]
    simp [putV, PT.get_set_same]
  · have hsame : PT.get t (putV x.o.dst (L.V p) e).tmps = PT.get t e.tmps := by
      unfold putV
      split
      · rename_i d hd2
        exact PT.get_set_ne _ _ (fun e2 => hd (by rw [hd2, e2]))
      · rfl
    rw [hsame]
    rcases h3 t with ⟨p', x', g1, g2, g3, g4⟩ | ⟨g1, g2⟩
    · exact .inl ⟨p', x', .inr g1, g2, g3, g4⟩
    · right
      refine ⟨?_, g2⟩
      rintro p' x' (rfl | hp') hx'
      · rw [hx] at hx'; cases hx'; exact hd
      · exact g1 p' x' hp' hx'

theorem Lay.env_prefix (ok : L.OK C) : ∀ p, p ≤ L.items.length → L.EnvS (· < p) (L.E p)
  | 0, _ => by
    rw [ok.trace.env0]
    exact ⟨rfl, rfl, fun t => .inr ⟨fun p x h => absurd h (Nat.not_lt_zero p), rfl⟩⟩
  | p + 1, h => by
    have hx := List.getElem?_eq_getElem (l := L.items) (i := p) (by omega)
    have := (Lay.env_prefix ok p (by omega)).put hx
    rw [also_lt] at this
    rw [(ok.trace.step p _ hx).1]
    exact this

theorem Lay.dst_one (ok : L.OK C) {t : Pos} (hx : L.items[p]? = some x) (hy : L.items[q]? = some y) (h1 : x.o.dst = some t) (h2 : y.o.dst = some t) : p = q := by
  rcases Nat.lt_trichotomy p q with h | h | h
  · exact (okPair_dst (ok.stat.pair p q x y h hx hy) h1 h2).elim
  · exact h
  · exact (okPair_dst (ok.stat.pair q p y x h hy hx) h2 h1).elim

/-- Who is done has all done that comes before. -/
def Lay.Closed (L : Lay) (S : Nat → Prop) : Prop := ∀ (q q' : Nat) (y z : DItem), S q → L.items[q]? = some y → L.items[q']? = some z → inMask (L.anc.getD y.ix 0) z.ix = true → S q'

/-- All that comes before one is done. -/
def Lay.Ready (L : Lay) (S : Nat → Prop) (x : DItem) : Prop := ∀ (q' : Nat) (z : DItem), L.items[q']? = some z → inMask (L.anc.getD x.ix 0) z.ix = true → S q'

/-- What one reads is what it reads in the order laid. -/
theorem Lay.agree (ok : L.OK C) (hc : L.Closed S) (he : L.EnvS S e) (hx : L.items[p]? = some x) (hp : ¬ S p) (hrd : L.Ready S x) : Agree x.o.reads e.tmps (L.E p).tmps := by
  intro t ht
  have hlt : p < L.items.length := by have := (List.getElem?_eq_some_iff.1 hx).1; exact this
  rcases he.2.2 t with ⟨q, y, g1, g2, g3, g4⟩ | ⟨g1, g2⟩ <;> rcases (Lay.env_prefix ok p (by omega)).2.2 t with ⟨q', y', k1, k2, k3, k4⟩ | ⟨k1, k2⟩
  · rw [g4, k4, Lay.dst_one ok g2 k2 g3 k3]
  · exfalso
    have hq : p < q := by
      rcases Nat.lt_trichotomy p q with h | h | h
      · exact h
      · subst h; exact absurd g1 hp
      · exact absurd g3 (k1 q y h g2)
    rcases okPair_m (ok.stat.pair p q x y hq hx g2) with h1 | ⟨_, h1, _⟩
    · exact hp (hc q p y x g1 g2 hx h1)
    · exact h1 t g3 ht
  · exfalso
    rcases okPair_m (ok.stat.pair q' p y' x k1 k2 hx) with h1 | ⟨h1, _, _⟩
    · exact absurd k3 (g1 q' y' (hrd q' y' k2 h1) k2)
    · exact h1 t k3 ht
  · rw [g2, k2]

theorem Agree.op {x : DItem} {e e' : PT AV} (h : Agree x.o.reads e e') : Agree x.o.op.reads e e' := by
  intro t ht
  refine h t ?_
  unfold AOper.reads
  split
  · exact ht
  · exact List.mem_cons_of_mem _ ht

theorem wanted_congr {x : DItem} (h : Agree x.o.reads e.tmps e'.tmps) : wanted e x.o.guard = wanted e' x.o.guard := by
  cases hg : x.o.guard with
  | none => rfl
  | some g =>
    obtain ⟨t, want⟩ := g
    have : PT.get t e.tmps = PT.get t e'.tmps := h t (by unfold AOper.reads; rw [hg]; simp)
    simp only [wanted]
    rw [this]

/-- All done: the temporaries are those of the order laid. -/
theorem Lay.env_all (ok : L.OK C) (he : L.EnvS S e) (he' : L.EnvS S' e') (h : ∀ p, p < L.items.length → S p ∧ S' p) (t : Pos) : PT.get t e.tmps = PT.get t e'.tmps := by
  have hlt : ∀ {p : Nat} {x : DItem}, L.items[p]? = some x → p < L.items.length := fun hx => (List.getElem?_eq_some_iff.1 hx).1
  rcases he.2.2 t with ⟨q, y, g1, g2, g3, g4⟩ | ⟨g1, g2⟩ <;> rcases he'.2.2 t with ⟨q', y', k1, k2, k3, k4⟩ | ⟨k1, k2⟩
  · rw [g4, k4, Lay.dst_one ok g2 k2 g3 k3]
  · exact absurd g3 (k1 q y (h q (hlt g2)).2 g2)
  · exact absurd k3 (g1 q' y' (h q' (hlt k2)).1 k2)
  · rw [g2, k2]

/-- A block that is made at a place. -/
def Lay.Made (L : Lay) (p : Nat) (b : Pos) (o : AObj) : Prop :=
  ∃ x, L.items[p]? = some x ∧ x.cls = .a ∧ wanted (L.E p) x.o.guard = some true ∧ b = (L.Hf p).next ∧ Makes L.r (L.E p) x.o.op b (L.V p) o

def Lay.ent (L : Lay) (j : Nat) : AV × AV := match L.items[j]? with
  | some x => match x.o.op with
    | .insert _ _ (.c k) v => (k, val (L.E j).tmps v)
    | _ => (.undef, .undef)
  | none => (.undef, .undef)

/-- An entry, and the map that it goes into. -/
def Lay.EntOf (L : Lay) (j p : Nat) : Prop := ∃ x y d q k v, L.items[j]? = some x ∧ x.cls = .i ∧ L.items[p]? = some y ∧ y.cls = .a ∧ y.o.dst = some d ∧ x.o.op = .insert q (.t d) (.c k) v

/-- What has become of a block that was made. -/
def Lay.Now (L : Lay) (S : Nat → Prop) (p : Nat) (o o' : AObj) : Prop :=
  match o with
  | .map q [] => ∃ J : List Nat, J.Nodup ∧ (∀ j, j ∈ J ↔ S j ∧ L.EntOf j p) ∧ o' = .map q (J.map L.ent)
  | o => o' = o

/-- What memory holds. -/
structure Lay.Cont (L : Lay) (S : Nat → Prop) (m : Nat) (t : PT AObj) : Prop where
  old : ∀ b o, PT.get b (L.Hf m).t = some o → PT.get b t = some o
  made : ∀ p b o, m ≤ p → S p → L.Made p b o → ∃ o', PT.get b t = some o' ∧ L.Now S p o o'
  only : ∀ b o', PT.get b t = some o' → PT.get b (L.Hf m).t = some o' ∨ ∃ p o, m ≤ p ∧ S p ∧ L.Made p b o ∧ L.Now S p o o'

def Below (h : Heap) : Prop := ∀ b o, PT.get b h.t = some o → b.nat < h.next.nat

theorem Lay.Now.more (hn : ∀ a, ¬ L.EntOf p a) {o o' : AObj} (h : L.Now S q o o') : L.Now (also p S) q o o' := by
  unfold Lay.Now at h ⊢
  split at h
  · obtain ⟨J, h1, h2, h3⟩ := h
    refine ⟨J, h1, fun j => ?_, h3⟩
    rw [h2 j]
    constructor
    · rintro ⟨h4, h5⟩; exact ⟨.inr h4, h5⟩
    · rintro ⟨rfl | h4, h5⟩
      · exact absurd h5 (hn q)
      · exact ⟨h4, h5⟩
  · exact h

theorem Lay.Now.noent (hn : ∀ j, S j → ¬ L.EntOf j p) {o o' : AObj} : L.Now S p o o' ↔ o' = o := by
  unfold Lay.Now
  split
  · constructor
    · rintro ⟨J, h1, h2, h3⟩
      have : J = [] := by
        cases J with
        | nil => rfl
        | cons j J => exact absurd ((h2 j).1 (by simp)).2 (hn j ((h2 j).1 (by simp)).1)
      rw [h3, this]; rfl
    · rintro rfl
      exact ⟨[], List.nodup_nil, fun j => by simp; exact hn j, rfl⟩
  · exact Iff.rfl

theorem Lay.Cont.skip {t : PT AObj} (h : L.Cont S m t) (hn : ∀ a, ¬ L.EntOf p a) (hm : ∀ b o, ¬ L.Made p b o) : L.Cont (also p S) m t := by
  refine ⟨h.old, ?_, ?_⟩
  · rintro q b o hq (rfl | hs) hmade
    · exact absurd hmade (hm b o)
    · obtain ⟨o', h1, h2⟩ := h.made q b o hq hs hmade
      exact ⟨o', h1, h2.more hn⟩
  · intro b o' e
    rcases h.only b o' e with h1 | ⟨q, o, h1, h2, h3, h4⟩
    · exact .inl h1
    · exact .inr ⟨q, o, h1, .inr h2, h3, h4.more hn⟩

theorem Lay.Made.fun {b b' : Pos} {o o' : AObj} (h : L.Made p b o) (h' : L.Made p b' o') : b = b' ∧ o = o' := by
  obtain ⟨x, h1, _, _, rfl, h2⟩ := h
  obtain ⟨y, g1, _, _, rfl, g2⟩ := h'
  rw [h1] at g1
  cases g1
  refine ⟨rfl, ?_⟩
  have e1 := h2 ⟨.E, (L.Hf p).next⟩ rfl
  have e2 := g2 ⟨.E, (L.Hf p).next⟩ rfl
  rw [e1] at e2
  simp only [R.ok.injEq, Heap.mk.injEq, true_and] at e2
  have := congrArg (PT.get (L.Hf p).next) e2.1
  simpa [PT.get_set_same] using this

theorem Lay.Cont.mk' {t t' : PT AObj} (h : L.Cont S m t) (hn : ∀ a, ¬ L.EntOf p a) (hn2 : ∀ j, S j → ¬ L.EntOf j p) {b : Pos} {o : AObj} (hmp : m ≤ p) (hmade : L.Made p b o) (hnew : PT.get b t = none)
    (ht : ∀ c, PT.get c t' = if b = c then some o else PT.get c t) : L.Cont (also p S) m t' := by
  have hnow : L.Now (also p S) p o o := by
    refine (Lay.Now.noent ?_).2 rfl
    rintro j (rfl | hj)
    · exact hn _
    · exact hn2 j hj
  refine ⟨?_, ?_, ?_⟩
  · intro c o2 e
    have := h.old c o2 e
    rw [ht c, if_neg]
    · exact this
    · rintro rfl; rw [hnew] at this; cases this
  · rintro q c o2 hq (rfl | hs) hm2
    · obtain ⟨rfl, rfl⟩ := hmade.fun hm2
      exact ⟨o, by rw [ht, if_pos rfl], hnow⟩
    · obtain ⟨o', h1, h2⟩ := h.made q c o2 hq hs hm2
      refine ⟨o', ?_, h2.more hn⟩
      rw [ht c, if_neg]
      · exact h1
      · rintro rfl; rw [hnew] at h1; cases h1
  · intro c o' e
    rw [ht c] at e
    split at e
    · rename_i hb
      subst hb
      cases e
      exact .inr ⟨p, o, hmp, .inl rfl, hmade, hnow⟩
    · rcases h.only c o' e with h1 | ⟨q, o2, h1, h2, h3, h4⟩
      · exact .inl h1
      · exact .inr ⟨q, o2, h1, .inr h2, h3, h4.more hn⟩

/-- An entry more in a map. -/
theorem Lay.Cont.ins {t t' : PT AObj} (h : L.Cont S m t) (hp : ¬ S p) {a : Nat} {b : Pos} {k : EqK} {es : List (AV × AV)} (hma : m ≤ a) (hent : L.EntOf p a) (hone : ∀ a', L.EntOf p a' → a' = a) (hb : L.Made a b (.map k [])) (hsa : S a)
    (hdiff : ∀ q c o, m ≤ q → L.Made q c o → q ≠ a → c ≠ b) (hold : PT.get b (L.Hf m).t = none) (hnm : ∀ b' o, ¬ L.Made p b' o) (hg : PT.get b t = some (.map k es)) (ht : ∀ c, PT.get c t' = if b = c then some (.map k (es ++ [L.ent p])) else PT.get c t) : L.Cont (also p S) m t' := by
  have hnow : L.Now (also p S) a (.map k []) (.map k (es ++ [L.ent p])) := by
    obtain ⟨o', h1, h2⟩ := h.made a b _ hma hsa hb
    rw [hg] at h1
    cases h1
    unfold Lay.Now at h2 ⊢
    simp only at h2 ⊢
    obtain ⟨J, g1, g2, g3⟩ := h2
    simp only [AObj.map.injEq, true_and] at g3
    refine ⟨J ++ [p], ?_, ?_, by rw [g3]; simp⟩
    · rw [List.nodup_append]
      refine ⟨g1, by simp, ?_⟩
      rintro j hj j' hj' rfl
      simp only [List.mem_singleton] at hj'
      subst hj'
      exact hp ((g2 j).1 hj).1
    · intro j
      simp only [List.mem_append, List.mem_singleton, g2 j]
      constructor
      · rintro (⟨h4, h5⟩ | rfl)
        · exact ⟨.inr h4, h5⟩
        · exact ⟨.inl rfl, hent⟩
      · rintro ⟨rfl | h4, h5⟩
        · exact .inr rfl
        · exact .inl ⟨h4, h5⟩
  have hmore : ∀ q o o', q ≠ a → L.Now S q o o' → L.Now (also p S) q o o' := by
    intro q o o' hq hno
    unfold Lay.Now at hno ⊢
    split at hno
    · obtain ⟨J, h1, h2, h3⟩ := hno
      refine ⟨J, h1, fun j => ?_, h3⟩
      rw [h2 j]
      constructor
      · rintro ⟨h4, h5⟩; exact ⟨.inr h4, h5⟩
      · rintro ⟨rfl | h4, h5⟩
        · exact absurd (hone q h5) hq
        · exact ⟨h4, h5⟩
    · exact hno
  refine ⟨?_, ?_, ?_⟩
  · intro c o2 e
    rw [ht c, if_neg]
    · exact h.old c o2 e
    · rintro rfl; rw [hold] at e; cases e
  · rintro q c o2 hq (rfl | hs) hm2
    · exact absurd hm2 (hnm c o2)
    · by_cases hqa : q = a
      · subst hqa
        obtain ⟨rfl, rfl⟩ := hb.fun hm2
        exact ⟨_, by rw [ht, if_pos rfl], hnow⟩
      · obtain ⟨o', h1, h2⟩ := h.made q c o2 hq hs hm2
        refine ⟨o', ?_, hmore _ _ _ hqa h2⟩
        rw [ht c, if_neg]
        · exact h1
        · rintro rfl; exact hdiff q b o2 hq hm2 hqa rfl
  · intro c o' e
    rw [ht c] at e
    split at e
    · rename_i hbc
      subst hbc
      cases e
      exact .inr ⟨a, _, hma, .inr hsa, hb, hnow⟩
    · rename_i hbc
      rcases h.only c o' e with h1 | ⟨q, o2, h1, h2, h3, h4⟩
      · exact .inl h1
      · refine .inr ⟨q, o2, h1, .inr h2, h3, hmore _ _ _ ?_ h4⟩
        rintro rfl
        exact hbc (hb.fun h3).1

end
end Go.Am

namespace Go.Am
section
variable {C : Cx} {L : Lay} {S S' : Nat → Prop} {e e' : Env} {p q m : Nat} {x y : DItem}

theorem lt_of_get {l : List DItem} (h : l[p]? = some x) : p < l.length := (List.getElem?_eq_some_iff.1 h).1

/-- The map literal of an entry. -/
theorem Lay.target (ok : L.OK C) (hx : L.items[p]? = some x) (hi : x.cls = .i) : ∃ (a : Nat) (y : DItem) (d : Pos) (k : EqK) (key : AV) (v : AArg), a < p ∧ L.items[a]? = some y ∧ y.cls = .a ∧ y.o.op = .mkmap k ∧ y.o.guard = none ∧ y.o.dst = some d ∧
    x.o.op = .insert k (.t d) (.c key) v ∧ x.o.guard = none ∧ inMask (L.anc.getD x.ix 0) y.ix = true ∧ k.key = true := by
  have h := ok.stat.one p x hx
  simp only [okOne, hi] at h
  split at h
  all_goals first | (cases h; done) | skip
  all_goals rename_i heq1 heq2
  all_goals first | (cases heq1; done) | skip
  split at h
  · rename_i k m key v hop hg
    rw [List.any_eq_true] at h
    obtain ⟨y, hy, h⟩ := h
    split at h
    · rename_i q' d c1 c2 c3 c4
      simp only [Bool.and_eq_true] at h
      obtain ⟨h1, h2, h3, h4⟩ := h
      rw [List.mem_reverse, List.mem_take_iff_getElem] at hy
      obtain ⟨a, ha, rfl⟩ := hy
      have hap : a < p := by omega
      refine ⟨a, _, d, k, key, v, hap, List.getElem?_eq_getElem (by omega), c1, by rw [c2, eqEqK_eq h2], c3, c4, by rw [hop, Pos.beq_eq h1], hg, h3, ?_⟩
      cases k <;> first | rfl | (simp at h4)
    · cases h
  · cases h

theorem Lay.EntOf.cls {a : Nat} (h : L.EntOf p a) (hx : L.items[p]? = some x) : x.cls = .i := by
  obtain ⟨x', _, _, _, _, _, h1, h2, _⟩ := h
  rw [hx] at h1; cases h1; exact h2

theorem Lay.noent_of (hx : L.items[p]? = some x) (hi : x.cls ≠ .i) (a : Nat) : ¬ L.EntOf p a := fun h => hi (h.cls hx)

theorem Lay.EntOf.one (ok : L.OK C) {a a' : Nat} (h : L.EntOf p a) (h' : L.EntOf p a') : a = a' := by
  obtain ⟨x, y, d, q, k, v, h1, h2, h3, h4, h5, h6⟩ := h
  obtain ⟨x', y', d', q', k', v', g1, g2, g3, g4, g5, g6⟩ := h'
  rw [h1] at g1
  cases g1
  rw [h6] at g6
  cases g6
  exact Lay.dst_one ok h3 g3 h5 g5

theorem Lay.EntOf.before (ok : L.OK C) {a : Nat} (h : L.EntOf p a) (hx : L.items[p]? = some x) (hy : L.items[a]? = some y) : a < p ∧ inMask (L.anc.getD x.ix 0) y.ix = true := by
  obtain ⟨a', y', d, k, key, v, h1, h2, h3, h4, h5, h6, h7, h8, h9, h10⟩ := Lay.target ok hx (h.cls hx)
  have : L.EntOf p a' := ⟨x, y', d, k, key, v, hx, h.cls hx, h2, h3, h6, h7⟩
  cases h.one ok this
  rw [hy] at h2
  cases h2
  exact ⟨h1, h9⟩

theorem Lay.Made.next (ok : L.OK C) {b : Pos} {o : AObj} (h : L.Made p b o) : L.Hf (p + 1) = ⟨PT.set b o (L.Hf p).t, b.succ⟩ ∧ b = (L.Hf p).next := by
  obtain ⟨x, h1, h2, h3, rfl, h4⟩ := h
  have := (ok.trace.step p x h1).2
  rcases this with h5 | ⟨_, h5⟩
  · rw [h3] at h5; cases h5.1
  · rw [h2] at h5
    have h6 := h5.1
    rw [h4 (L.Hf p) rfl] at h6
    simp only [R.ok.injEq, true_and] at h6
    exact ⟨h6.symm, rfl⟩

theorem Lay.Made.lt (ok : L.OK C) {b : Pos} {o : AObj} (h : L.Made p b o) (hpq : p < q) (hq : q ≤ L.items.length) : b.nat < (L.Hf q).next.nat := by
  have h1 := ok.trace.next ok.good.next (p := p + 1) q (by omega) hq
  rw [(h.next ok).1] at h1
  simp only [Pos.nat_succ] at h1
  omega

theorem Lay.Made.apart (ok : L.OK C) {b b' : Pos} {o o' : AObj} (h : L.Made p b o) (h' : L.Made q b' o') (hpq : p ≠ q) : b ≠ b' := by
  have l1 : p < L.items.length := by obtain ⟨x, hx, _⟩ := h; exact lt_of_get hx
  have l2 : q < L.items.length := by obtain ⟨x, hx, _⟩ := h'; exact lt_of_get hx
  rintro rfl
  rcases Nat.lt_trichotomy p q with h1 | h1 | h1
  · have := h.lt ok h1 (by omega)
    rw [(h'.next ok).2] at this
    omega
  · exact hpq h1
  · have := h'.lt ok h1 (by omega)
    rw [(h.next ok).2] at this
    omega

/-- The map literal is made. -/
theorem Lay.lit (ok : L.OK C) {a : Nat} {k : EqK} (hy : L.items[a]? = some y) (hc : y.cls = .a) (hop : y.o.op = .mkmap k) (hg : y.o.guard = none) : L.V a = .map (L.Hf a).next ∧ L.Made a (L.Hf a).next (.map k []) := by
  have hw : wanted (L.E a) y.o.guard = some true := by rw [hg]; rfl
  have hV : L.V a = .map (L.Hf a).next := by
    rcases (ok.trace.step a y hy).2 with h5 | ⟨_, h5⟩
    · rw [hw] at h5; cases h5.1
    · rw [hc] at h5
      have h6 := h5.1
      rw [hop] at h6
      simp only [evalOp, R.ok.injEq] at h6
      exact h6.1.symm
  refine ⟨hV, y, hy, hc, hw, rfl, ?_⟩
  intro h2 e
  rw [hop, hV]
  simp only [evalOp, e]

theorem setKey_snoc {q : EqK} {k v : AV} : ∀ {es : List (AV × AV)}, (∀ x ∈ es, same q k x.1 = some false) → setKey q k v es = some (es ++ [(k, v)])
  | [], _ => rfl
  | (k', v') :: es, hn => by
    simp only [setKey, hn (k', v') (by simp)]
    rw [setKey_snoc (fun x hx => hn x (by simp [hx]))]
    rfl

theorem eqEqK_refl (k : EqK) : eqEqK k k = true := by cases k <;> rfl

theorem ins_run {r : Rec} {hx : Heap} {k : EqK} {d b : Pos} {key : AV} {v : AArg} {es : List (AV × AV)} (hv : val e.tmps (.t d) = .map b) (hg : PT.get b hx.t = some (.map k es)) (hn : ∀ x ∈ es, same k key x.1 = some false) :
    evalOp r e hx (.insert k (.t d) (.c key) v) = .ok (.tup []) ⟨PT.set b (.map k (es ++ [(key, val e.tmps v)])) hx.t, hx.next⟩ := by
  simp only [evalOp, hv, hg, eqEqK_refl]
  have : val e.tmps (.c key) = key := rfl
  rw [this, setKey_snoc hn]

/-- Where entries go, nobody reads or writes besides. -/
theorem Lay.noER (ok : L.OK C) (hx : L.items[p]? = some x) (hi : x.cls = .i) (hy : L.items[q]? = some y) : isE y.cls = false := by
  have h := ok.stat.ent (List.any_eq_true.2 ⟨x, List.mem_of_getElem? hx, by simp [isI, hi]⟩)
  rw [List.any_eq_false] at h
  have := h y (List.mem_of_getElem? hy)
  cases hc : y.cls <;> simp [isER, hc] at this ⊢ <;> rfl

/-- The keys that a map has are other ones. -/
theorem Lay.keys (ok : L.OK C) {a : Nat} {k : EqK} {d : Pos} {key : AV} {v : AArg} (hx : L.items[p]? = some x) (hi : x.cls = .i) (hop : x.o.op = .insert k (.t d) (.c key) v) (hent : L.EntOf p a) (hp : ¬ S p) {es : List (AV × AV)}
    (hnow : L.Now S a (.map k []) (.map k es)) : ∀ z ∈ es, same k key z.1 = some false := by
  unfold Lay.Now at hnow
  simp only at hnow
  obtain ⟨J, _, h2, h3⟩ := hnow
  simp only [AObj.map.injEq, true_and] at h3
  subst h3
  intro z hz
  obtain ⟨j, hj, rfl⟩ := List.mem_map.1 hz
  obtain ⟨hsj, hej⟩ := (h2 j).1 hj
  have hjp : j ≠ p := fun e => hp (e ▸ hsj)
  obtain ⟨xj, yj, dj, kj, keyj, vj, g1, g2, g3, g4, g5, g6⟩ := hej
  obtain ⟨a1, y1, d1, k1, key1, v1, t1, t2, t3, t4, t5, t6, t7, t8, t9, t10⟩ := Lay.target ok hx hi
  obtain ⟨a2, y2, d2, k2, key2, v2, s1, s2, s3, s4, s5, s6, s7, s8, s9, s10⟩ := Lay.target ok g1 g2
  have e1 : a1 = a := Lay.EntOf.one ok ⟨x, y1, d1, k1, key1, v1, hx, hi, t2, t3, t6, t7⟩ hent
  have e2 : a2 = a := Lay.EntOf.one ok (p := j) ⟨xj, y2, d2, k2, key2, v2, g1, g2, s2, s3, s6, s7⟩ ⟨xj, yj, dj, kj, keyj, vj, g1, g2, g3, g4, g5, g6⟩
  subst e1
  subst e2
  rw [t2] at s2
  cases s2
  rw [t4] at s4
  cases s4
  rw [hop] at t7
  cases t7
  have hej2 : (L.ent j).1 = key2 := by
    unfold Lay.ent
    rw [g1]
    simp only [s7]
  rw [hej2]
  rcases Nat.lt_or_gt_of_ne hjp with h | h
  · obtain ⟨q1, q2, m1, m2, c1, c2, w1, w2, r1, r2, r3, r4⟩ := okPair_keys (ok.stat.pair j p xj x h g1 hx) g2 hi
    rw [s7] at r1; cases r1
    rw [hop] at r2; cases r2
    exact r4
  · obtain ⟨q1, q2, m1, m2, c1, c2, w1, w2, r1, r2, r3, r4⟩ := okPair_keys (ok.stat.pair p j x xj h hx g1) hi g2
    rw [hop] at r1; cases r1
    rw [s7] at r2; cases r2
    exact r3

end
end Go.Am

namespace Go.Am
section
variable {C : Cx} {L : Lay} {S S' : Nat → Prop} {e e' : Env} {p q m : Nat} {x y : DItem}

/-- A place behind one that writes, or the first. -/
def Lay.Bound (L : Lay) (m : Nat) : Prop := m = 0 ∨ ∃ x, L.items[m - 1]? = some x ∧ isE x.cls = true

theorem Lay.bound_zero (ok : L.OK C) (hm : L.Bound m) (hx : L.items[p]? = some x) (hi : x.cls = .i) : m = 0 := by
  rcases hm with h | ⟨y, h1, h2⟩
  · exact h
  · rw [Lay.noER ok hx hi h1] at h2; cases h2

/-- One that makes a block: it is made. -/
theorem Lay.made_of (ok : L.OK C) (hx : L.items[p]? = some x) (hc : x.cls = .a) (hw : wanted (L.E p) x.o.guard = some true) : ∃ o, L.Made p (L.Hf p).next o := by
  rcases (ok.trace.step p x hx).2 with h5 | ⟨_, h5⟩
  · rw [hw] at h5; cases h5.1
  · rw [hc] at h5
    have hcls : x.o.op.cls = some .a := by
      have h := ok.stat.one p x hx
      simp only [okOne, hc] at h
      split at h
      all_goals first | (cases h; done) | skip
      all_goals rename_i e1 e2
      all_goals first | (cases e1; done) | exact e2
    obtain ⟨o, _, h6⟩ := makes_of_a hcls h5.1
    exact ⟨o, x, hx, hc, hw, rfl, h6⟩

theorem Lay.cls_v (ok : L.OK C) (hx : L.items[p]? = some x) (hc : x.cls = .v) : x.o.op.cls = some .v := by
  have h := ok.stat.one p x hx
  simp only [okOne, hc] at h
  split at h
  all_goals first | (cases h; done) | skip
  all_goals rename_i e1 e2
  all_goals first | (cases e1; done) | exact e2

theorem Lay.cls_r (ok : L.OK C) (hx : L.items[p]? = some x) {k : Nat} (hc : x.cls = .r k) : (∃ k', x.o.op.cls = some (.r k')) ∧ backE (L.anc.getD x.ix 0) ((L.items.take p).reverse.map DItem.pair) ≤ k := by
  have h := ok.stat.one p x hx
  simp only [okOne, hc] at h
  split at h
  all_goals first | (cases h; done) | skip
  all_goals rename_i e1 e2
  all_goals first | (cases e1; done) | skip
  cases e1
  exact ⟨⟨_, e2⟩, Nat.le_of_ble_eq_true h⟩

theorem isE_iff {c : DCls} : isE c = true ↔ c = .e := by cases c <;> simp [isE]

/-- What memory holds in the order laid. -/
theorem Lay.canon (ok : L.OK C) (hm : L.Bound m) (hb : Below (L.Hf m)) : ∀ p, m ≤ p → p ≤ L.items.length → (∀ (q : Nat) (z : DItem), m ≤ q → q < p → L.items[q]? = some z → isE z.cls = false) → Below (L.Hf p) ∧ L.Cont (· < p) m (L.Hf p).t
  | 0, hmp, _, _ => by
    obtain rfl : m = 0 := by omega
    exact ⟨hb, fun _ _ h => h, fun p b o _ h => absurd h (Nat.not_lt_zero p), fun _ _ h => .inl h⟩
  | p + 1, hmp, hp, hE => by
    by_cases hmp' : m = p + 1
    · rw [← hmp']
      exact ⟨hb, fun _ _ h => h, fun q b o h1 h2 => by omega, fun _ _ h => .inl h⟩
    · have hlt : p < L.items.length := by omega
      obtain ⟨ih1, ih2⟩ := Lay.canon ok hm hb p (by omega) (by omega) (fun q z h1 h2 => hE q z h1 (by omega))
      have hx := List.getElem?_eq_getElem hlt
      generalize L.items[p]'hlt = x at hx
      have hst := ok.trace.step p x hx
      have hnE := hE p x (by omega) (by omega) hx
      rw [← also_lt]
      have hpre : ∀ (j : Nat), j < p → ¬ L.EntOf j p := by
        intro j hj hej
        have hej' := hej
        obtain ⟨xj, yj, _, _, _, _, g1, _, g3, _⟩ := hej'
        have := (Lay.EntOf.before ok hej g1 g3).1
        omega
      -- nothing happens to memory
      have hskip : L.Hf (p + 1) = L.Hf p → x.cls ≠ .i → (∀ b o, ¬ L.Made p b o) → Below (L.Hf (p + 1)) ∧ L.Cont (also p (· < p)) m (L.Hf (p + 1)).t := by
        intro h1 h2 h3
        rw [h1]
        exact ⟨ih1, ih2.skip (Lay.noent_of hx h2) h3⟩
      rcases hst.2 with ⟨hw, _, h1, _⟩ | ⟨hw, h1⟩
      · refine hskip h1 ?_ ?_
        · intro hi
          obtain ⟨a, y, d, k, key, v, t1, t2, t3, t4, t5, t6, t7, t8, t9, t10⟩ := Lay.target ok hx hi
          rw [t8] at hw; cases hw
        · rintro b o ⟨x', g1, _, g2, _⟩
          rw [hx] at g1; cases g1
          rw [hw] at g2; cases g2
      · cases hc : x.cls with
        | e => rw [hc] at hnE; cases hnE
        | v =>
          rw [hc] at h1
          refine hskip (pure_of_v (Lay.cls_v ok hx hc) h1.1).1 (by rw [hc]; simp) ?_
          rintro b o ⟨x', g1, g2, _⟩
          rw [hx] at g1; cases g1
          rw [hc] at g2; cases g2
        | r k =>
          rw [hc] at h1
          obtain ⟨_, _, _, _, _, _, h2, _⟩ := h1
          refine hskip h2 (by rw [hc]; simp) ?_
          rintro b o ⟨x', g1, g2, _⟩
          rw [hx] at g1; cases g1
          rw [hc] at g2; cases g2
        | a =>
          obtain ⟨o, hmade⟩ := Lay.made_of ok hx hc hw
          obtain ⟨h2, _⟩ := hmade.next ok
          have hnew : PT.get (L.Hf p).next (L.Hf p).t = none := by
            cases hg : PT.get (L.Hf p).next (L.Hf p).t with
            | none => rfl
            | some z => have := ih1 _ z hg; omega
          rw [h2]
          refine ⟨?_, ih2.mk' (Lay.noent_of hx (by rw [hc]; simp)) hpre (by omega) hmade hnew (fun c => PT.get_set _ _ _ _)⟩
          intro c z hz
          simp only [PT.get_set] at hz
          simp only [Pos.nat_succ]
          split at hz
          · rename_i hcb; rw [← hcb]; omega
          · have := ih1 _ z hz; omega
        | i =>
          rw [hc] at h1
          obtain ⟨a, y, d, k, key, v, t1, t2, t3, t4, t5, t6, t7, t8, t9, t10⟩ := Lay.target ok hx hc
          have hm0 := Lay.bound_zero ok hm hx hc
          subst hm0
          obtain ⟨hV, hmade⟩ := Lay.lit ok t2 t3 t4 t5
          have hent : L.EntOf p a := ⟨x, y, d, k, key, v, hx, hc, t2, t3, t6, t7⟩
          obtain ⟨o', g1, g2⟩ := ih2.made a _ _ (Nat.zero_le _) t1 hmade
          have hes : ∃ es, o' = .map k es := by
            unfold Lay.Now at g2
            simp only at g2
            obtain ⟨J, _, _, rfl⟩ := g2
            exact ⟨_, rfl⟩
          obtain ⟨es, rfl⟩ := hes
          have hval : val (L.E p).tmps (.t d) = .map (L.Hf a).next := by
            rcases (Lay.env_prefix ok p (by omega)).2.2 d with ⟨a', y', k1, k2, k3, k4⟩ | ⟨k1, _⟩
            · have := Lay.dst_one ok k2 t2 k3 t6
              subst this
              simp only [val, k4, hV]
            · exact absurd t6 (k1 a y t1 t2)
          have hkeys := Lay.keys ok (S := (· < p)) hx hc t7 hent (Nat.lt_irrefl p) g2
          have hrun := ins_run (r := L.r) (hx := L.Hf p) (v := v) hval g1 hkeys
          rw [t7, hrun] at h1
          simp only [R.ok.injEq] at h1
          obtain ⟨⟨_, h1⟩, _⟩ := h1
          have hent2 : L.ent p = (key, val (L.E p).tmps v) := by
            unfold Lay.ent
            rw [hx]
            simp only [t7]
          have hbge : (L.Hf 0).next.nat ≤ (L.Hf a).next.nat := ok.trace.next ok.good.next a (Nat.zero_le _) (by omega)
          rw [← h1]
          refine ⟨?_, ih2.ins (Nat.lt_irrefl p) (Nat.zero_le _) hent (fun a' h' => h'.one ok hent) hmade t1 ?_ ?_ ?_ g1 (fun c => by rw [PT.get_set, hent2])⟩
          · intro c z hz
            simp only [PT.get_set] at hz
            split at hz
            · rename_i hcb; subst hcb; exact ih1 _ _ g1
            · exact ih1 _ z hz
          · intro q c o _ hq hqa
            exact hq.apart ok hmade hqa
          · cases hg : PT.get (L.Hf a).next (L.Hf 0).t with
            | none => rfl
            | some z => have := hb _ z hg; omega
          · rintro b o ⟨x', f1, f2, _⟩
            rw [hx] at f1; cases f1
            rw [hc] at f2; cases f2

end
end Go.Am

