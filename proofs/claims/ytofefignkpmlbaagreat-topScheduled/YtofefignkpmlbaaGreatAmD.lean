/- An abstract machine for Go code and its soundness over the model; no condition of its own. Used by the proof that the law TopScheduled returns true at every input. -/
import Derived.Test.YtofefignkpmlbaaGreatAmC
import Derived.Laws.StandIn
import Derived.Lib.Bytealg
namespace Go.Am
section
variable {C : Cx} {L : Lay} {S S' : Nat → Prop} {e e' : Env} {p q m : Nat} {x y : DItem} {ρ : Map} {H h h' : Heap} {F : Nat → Option FObj} {w : World} {a : Act} {b : Frame} {r : Rec} {o : Oper} {v : AV} {nt : Nat}

/-- What is listed as done is what is done. -/
structure Lay.Listed (L : Lay) (listed : Array Bool) (S : Nat → Prop) : Prop where
  size : listed.size = L.ops.size
  done : ∀ (p : Nat) (x : DItem), L.items[p]? = some x → (listed.getD x.ix false = true ↔ S p)

theorem getD_ix {l : Array Bool} {i : Nat} (h : i < l.size) (d d' : Bool) : l.getD i d = l.getD i d' := by
  simp [Array.getD, h]

/-- What can be picked. -/
theorem mem_ready {ops : Array Oper} {listed : Array Bool} {i : Nat} : i ∈ ((List.range ops.size).filter fun i => !listed.getD i true && ((ops[i]?).map (·.after.all fun e => !Region.binds .any e || listed.getD e.on false)).getD false) ↔
    ∃ o, ops[i]? = some o ∧ listed.getD i true = false ∧ ∀ e ∈ o.after, Region.binds .any e = true → listed.getD e.on false = true := by
  simp only [List.mem_filter, List.mem_range, Bool.and_eq_true, Bool.not_eq_true']
  constructor
  · rintro ⟨h1, h2, h3⟩
    rw [Array.getElem?_eq_getElem h1] at h3 ⊢
    refine ⟨_, rfl, h2, ?_⟩
    simp only [Option.map_some, Option.getD_some, Array.all_eq_true, Bool.or_eq_true, Bool.not_eq_true'] at h3
    intro e he hb
    obtain ⟨j, hj, rfl⟩ := Array.getElem_of_mem he
    rcases h3 j hj with h4 | h4
    · rw [hb] at h4; cases h4
    · exact h4
  · rintro ⟨o, h1, h2, h3⟩
    have hlt := (Array.getElem?_eq_some_iff.1 h1).1
    refine ⟨hlt, h2, ?_⟩
    rw [h1]
    simp only [Option.map_some, Option.getD_some, Array.all_eq_true, Bool.or_eq_true, Bool.not_eq_true']
    intro j hj
    cases hb : Region.binds .any (o.after[j]'hj) with
    | false => exact .inl rfl
    | true => exact .inr (h3 _ (Array.getElem_mem hj) hb)

/-- Whoever can be picked is one that is not done, with all before done. -/
theorem Lay.pick (ok : L.OK C) {listed : Array Bool} (hl : L.Listed listed S) (hc : L.Closed S) {i : Nat} (ho : L.ops[i]? = some o) (h1 : listed.getD i true = false) (h2 : ∀ e ∈ o.after, Region.binds .any e = true → listed.getD e.on false = true) :
    ∃ p x, L.items[p]? = some x ∧ x.ix = i ∧ ¬ S p ∧ L.Ready S x := by
  obtain ⟨x, hx, hxi⟩ := ok.stat.all i o ho
  obtain ⟨p, hp⟩ := List.getElem?_of_mem hx
  have hlt : i < listed.size := by rw [hl.size]; exact (Array.getElem?_eq_some_iff.1 ho).1
  refine ⟨p, x, hp, hxi, ?_, ?_⟩
  · intro hs
    have := (hl.done p x hp).2 hs
    rw [hxi, getD_ix hlt false true, h1] at this
    cases this
  · intro q z hz hm
    rw [hxi] at hm
    obtain ⟨e, he, hb, h3⟩ := (ok.stat.before i o ho z.ix).1 hm
    have h4 := h2 e he hb
    have h5 := ok.stat.range i o ho e he hb
    obtain ⟨y, hy, hyi⟩ := ok.stat.all e.on _ (Array.getElem?_eq_getElem h5)
    obtain ⟨q', hq'⟩ := List.getElem?_of_mem hy
    have h6 : S q' := (hl.done q' y hq').1 (by rw [hyi]; exact h4)
    rcases h3 with h3 | h3
    · exact (hl.done q z hz).1 (by rw [h3]; exact h4)
    · exact hc q' q y z h6 hq' hz (by rw [hyi]; exact h3)

/-- Where not all are done, one can be picked. -/
theorem Lay.some_ready (ok : L.OK C) {listed : Array Bool} (hl : L.Listed listed S) : ∀ p, p < L.items.length → ¬ S p → (∀ q, q < p → S q) → ∃ i o, L.ops[i]? = some o ∧ listed.getD i true = false ∧ ∀ e ∈ o.after, Region.binds .any e = true → listed.getD e.on false = true := by
  intro p hp hs hall
  have hx := List.getElem?_eq_getElem hp
  generalize L.items[p]'hp = x at hx
  obtain ⟨o, ho, _⟩ := ok.stat.found x (List.mem_of_getElem? hx)
  have hlt : x.ix < listed.size := by rw [hl.size]; exact (Array.getElem?_eq_some_iff.1 ho).1
  refine ⟨x.ix, o, ho, ?_, ?_⟩
  · cases hg : listed.getD x.ix true with
    | false => rfl
    | true => exact absurd ((hl.done p x hx).1 (by rw [getD_ix hlt false true]; exact hg)) hs
  · intro e he hb
    have h5 := ok.stat.range _ o ho e he hb
    obtain ⟨y, hy, hyi⟩ := ok.stat.all e.on _ (Array.getElem?_eq_getElem h5)
    obtain ⟨q', hq'⟩ := List.getElem?_of_mem hy
    have hm : inMask (L.anc.getD x.ix 0) y.ix = true := (ok.stat.before _ o ho _).2 ⟨e, he, hb, .inl hyi⟩
    rw [← hyi]
    refine (hl.done q' y hq').2 (hall q' ?_)
    rcases Nat.lt_trichotomy q' p with h | h | h
    · exact h
    · subst h
      rw [hx] at hq'
      cases hq'
      rw [ok.stat.irr x (List.mem_of_getElem? hx)] at hm
      cases hm
    · have := okPair_top (ok.stat.pair p q' x y h hx hq')
      rw [this] at hm
      cases hm

theorem Lay.ix_inj (ok : L.OK C) (hx : L.items[p]? = some x) (hy : L.items[q]? = some y) (h : x.ix = y.ix) : p = q := by
  rcases Nat.lt_trichotomy p q with h1 | h1 | h1
  · exact absurd h (okPair_ix (ok.stat.pair p q x y h1 hx hy))
  · exact h1
  · exact absurd h.symm (okPair_ix (ok.stat.pair q p y x h1 hy hx))

theorem Lay.Listed.also (ok : L.OK C) {listed : Array Bool} (hl : L.Listed listed S) (hx : L.items[p]? = some x) : L.Listed (listed.setIfInBounds x.ix true) (also p S) := by
  refine ⟨by simp [hl.size], ?_⟩
  intro q y hy
  obtain ⟨o, ho, _⟩ := ok.stat.found x (List.mem_of_getElem? hx)
  have hlt : x.ix < listed.size := by rw [hl.size]; exact (Array.getElem?_eq_some_iff.1 ho).1
  by_cases h : x.ix = y.ix
  · have := Lay.ix_inj ok hx hy h
    subst this
    rw [hx] at hy; cases hy
    simp [Array.getD, hlt, Go.Am.also]
  · have hqp : q ≠ p := by
      rintro rfl
      rw [hx] at hy; cases hy; exact h rfl
    have h2 : (listed.setIfInBounds x.ix true).getD y.ix false = listed.getD y.ix false := by
      simp only [Array.getD_eq_getD_getElem?, Array.getElem?_setIfInBounds, if_neg h]
    rw [h2, hl.done q y hy]
    unfold Go.Am.also
    constructor
    · exact .inr
    · rintro (h3 | h3)
      · exact absurd h3 hqp
      · exact h3

theorem go_acc (md : Region.Mode) (ops : Array Oper) : ∀ (fuel t : Nat) (listed : Array Bool) (acc : List Nat), Region.linearise.go md ops fuel t listed acc = acc.reverse ++ Region.linearise.go md ops fuel t listed []
  | 0, t, listed, acc => by simp [Region.linearise.go]
  | fuel + 1, t, listed, acc => by
    simp only [Region.linearise.go]
    split
    · rename_i i hi
      rw [go_acc md ops fuel _ _ (i :: acc), go_acc md ops fuel _ _ [i]]
      simp
    · simp

/-- The order drawn comes to where the order laid does. -/
theorem Lay.go_sim (okC : C.OK) (ok : L.OK C) {k : List Item} {cs : List Frame} (hcalm : Calm b.kind cs) : ∀ (fuel t : Nat) (listed : Array Bool) (acc : List Nat) (S : Nat → Prop) (U : List Nat) (m : Nat) (ρ : Map) (H : Heap) (w : World) (e : Env) (a : Act),
    L.Listed listed S → U.Nodup → (∀ p, p ∈ U ↔ p < L.items.length ∧ ¬ S p) → U.length ≤ fuel → L.Inv C S m ρ H F w e b a →
    ∃ rest S' m' ρ' H' w' e' a', Region.linearise.go .any L.ops fuel t listed acc = acc.reverse ++ rest ∧ L.Inv C S' m' ρ' H' F w' e' b a' ∧ (∀ p, p < L.items.length → S' p) ∧ Out ρ ρ' (L.Hf 0).next (L.Hf L.items.length).next ∧ Same w w' ∧
      Steps C.P (lone (b.atR a (.inRegion L.ops rest :: k)) cs w) (lone (b.atR a' (.inRegion L.ops [] :: k)) cs w')
  | 0, t, listed, acc, S, U, m, ρ, H, w, e, a, hl, hn, hU, hlen, inv => by
    have : U = [] := List.eq_nil_of_length_eq_zero (by omega)
    subst this
    refine ⟨[], S, m, ρ, H, w, e, a, by simp [Region.linearise.go], inv, ?_, Out.refl', Same.refl w, Steps.refl _ _⟩
    intro p hp
    refine Classical.byContradiction fun hs => ?_
    have := (hU p).2 ⟨hp, hs⟩
    cases this
  | fuel + 1, t, listed, acc, S, U, m, ρ, H, w, e, a, hl, hn, hU, hlen, inv => by
    simp only [Region.linearise.go]
    split
    · rename_i i hi
      have hmem := List.mem_of_getElem? hi
      obtain ⟨o, ho, h1, h2⟩ := mem_ready.1 hmem
      obtain ⟨p, x, hx, hxi, hp, hrd⟩ := Lay.pick ok hl inv.closed ho h1 h2
      subst hxi
      have hpU : p ∈ U := (hU p).2 ⟨lt_of_get hx, hp⟩
      -- the picked one runs, whatever is left
      have hrun := fun (rest : List Nat) => inv.run okC ok hx hp hrd (rest := rest) (k := k) hcalm
      obtain ⟨m1, ρ1, H1, w1, e1, a1, i1, o1, s1, st1⟩ := hrun (Region.linearise.go .any L.ops fuel (t / (List.filter (fun i => !listed.getD i true && ((L.ops[i]?).map (·.after.all fun e => !Region.binds .any e || listed.getD e.on false)).getD false) (List.range L.ops.size)).length) (listed.setIfInBounds x.ix true) [])
      obtain ⟨rest, S', m', ρ', H', w', e', a', g1, g2, g3, g4, g5, g6⟩ := Lay.go_sim okC ok hcalm fuel (t / (List.filter (fun i => !listed.getD i true && ((L.ops[i]?).map (·.after.all fun e => !Region.binds .any e || listed.getD e.on false)).getD false) (List.range L.ops.size)).length) (listed.setIfInBounds x.ix true) [] (also p S) (U.erase p) m1 ρ1 H1 w1 e1 a1 (hl.also ok hx) (hn.erase p) (by
        intro q
        rw [hn.mem_erase_iff, hU q]
        unfold also
        constructor
        · rintro ⟨h3, h4, h5⟩; exact ⟨h4, fun h6 => h6.elim h3 h5⟩
        · rintro ⟨h4, h5⟩; exact ⟨fun h3 => h5 (.inl h3), h4, fun h6 => h5 (.inr h6)⟩) (by rw [List.length_erase_of_mem hpU]; omega) i1
      rw [List.reverse_nil, List.nil_append] at g1
      rw [g1] at st1
      refine ⟨x.ix :: rest, S', m', ρ', H', w', e', a', ?_, g2, g3, ?_, s1.trans g5, st1.trans g6⟩
      · rw [go_acc, g1]
        simp
      · intro c hc
        have n1 := ok.trace.next ok.good.next (p := 0) p (Nat.zero_le _) (Nat.le_of_lt (lt_of_get hx))
        have n2 := ok.trace.next ok.good.next (p := p + 1) L.items.length (lt_of_get hx) (Nat.le_refl _)
        rw [g4 c hc, o1 c (by omega)]
    · rename_i hi
      refine ⟨[], S, m, ρ, H, w, e, a, by simp, inv, ?_, Out.refl', Same.refl w, Steps.refl _ _⟩
      have key : ∀ n p, p ≤ n → p < L.items.length → S p := by
        intro n
        induction n with
        | zero =>
          intro p hp hlt
          obtain rfl : p = 0 := by omega
          refine Classical.byContradiction fun hs => ?_
          obtain ⟨i, o, h1, h2, h3⟩ := Lay.some_ready ok hl 0 hlt hs (fun q hq => absurd hq (Nat.not_lt_zero q))
          have hm := mem_ready.2 ⟨o, h1, h2, h3⟩
          have hpos := List.length_pos_of_mem hm
          rw [List.getElem?_eq_none_iff] at hi
          have := Nat.mod_lt t hpos
          omega
        | succ n ih =>
          intro p hp hlt
          refine Classical.byContradiction fun hs => ?_
          obtain ⟨i, o, h1, h2, h3⟩ := Lay.some_ready ok hl p hlt hs (fun q hq => ih q (by omega) (by omega))
          have hm := mem_ready.2 ⟨o, h1, h2, h3⟩
          have hpos := List.length_pos_of_mem hm
          rw [List.getElem?_eq_none_iff] at hi
          have := Nat.mod_lt t hpos
          omega
      exact fun p hp => key p p (Nat.le_refl _) hp

end
end Go.Am

namespace Go.Am
section
variable {C : Cx} {ρ : Map} {h : Heap} {F : Nat → Option FObj} {w w' : World}

theorem HR.world (hr : HR C ρ h F w) (hw : w'.heap = w.heap) {n : Pos} (hn : h.next.nat ≤ n.nat) : HR C ρ ⟨h.t, n⟩ F w' := by
  refine ⟨?_, hr.inj, ?_, hr.apart, ?_⟩
  · intro b o e
    obtain ⟨l, h1, h2⟩ := hr.live b o e
    exact ⟨l, h1, h2.mono (Ext.refl _) (by rw [hw])⟩
  · intro c o e
    exact (hr.frame c o e).congr (by rw [hw])
  · intro b o e
    exact Nat.lt_of_lt_of_le (hr.below b o e) hn

/-- Regions that draw their order. -/
theorem drawn_ok (ok : C.OK) (r : Rec) (hrec : RecOK C r) : DrawnOK C r := by
  intro nt id ops items env h env' h' ex htr hev
  rcases trDrawn_inv htr with ⟨anc, hst⟩ | rfl
  · simp only [evalCode] at hev
    split at hev
    · rename_i env1 hs1 h1 hevD
      cases hev
      obtain ⟨E, HS, Hf, V, T, e1, e2⟩ := evalD_trace hevD
      let L : Lay := ⟨r, nt, ops, anc, items, env, h, E, HS, Hf, V⟩
      have okL : L.OK C := ⟨hst, T, hrec⟩
      have hpre := Lay.env_prefix okL items.length (Nat.le_refl _)
      have hmono := T.next hrec.next (p := 0) items.length (Nat.zero_le _) (Nat.le_refl _)
      rw [T.h0, e2] at hmono
      refine ⟨hmono, ?_, ?_⟩
      · have h2 := hpre.1
        have hE2 : L.E items.length = env' := e1
        rw [hE2] at h2
        exact h2
      intro ρ F w b a k cs hr he hf hcalm
      let w1 : World := { w with drawn := w.drawn + 1 }
      have hinv : L.Inv C (fun _ => False) 0 ρ ⟨h.t, h'.next⟩ F w1 env b a := by
        refine ⟨hr.world (w' := w1) rfl hmono, ?_, .inl rfl, Nat.zero_le _, ?_, ⟨?_, fun _ _ _ _ hS => hS.elim, ?_⟩, ?_, ⟨rfl, rfl, fun t => .inr ⟨fun _ _ hS => hS.elim, rfl⟩⟩, he, fun _ _ _ _ hS => hS.elim, fun q hq => absurd hq (Nat.not_lt_zero q), fun _ _ _ hS => hS.elim⟩
        · show h'.next = (Hf items.length).next
          rw [e2]
        · show Below (Hf 0)
          rw [T.h0]; exact hr.below
        · intro c o h2
          have h2 : PT.get c (Hf 0).t = some o := h2
          rw [T.h0] at h2; exact h2
        · intro c o h2
          left
          show PT.get c (Hf 0).t = some o
          rw [T.h0]; exact h2
        · intro p hp _ c h2 h3
          have h2 : (Hf p).next.nat ≤ c.nat := h2
          have h3 : c.nat < (Hf (p + 1)).next.nat := h3
          have hp : p < items.length := hp
          have m1 := T.next hrec.next (p := 0) p (Nat.zero_le _) (by omega)
          have m2 := T.next hrec.next (p := p + 1) items.length hp (Nat.le_refl _)
          rw [T.h0] at m1
          rw [e2] at m2
          exact hf c (by omega) (by omega)
      obtain ⟨rest, S', m', ρ', H', w', e', a', g1, g2, g3, g4, g5, g6⟩ := Lay.go_sim ok okL (k := k) (cs := cs) hcalm ops.size (w.tape w.drawn (.order b.fn id)) (Array.replicate ops.size false) [] (fun _ => False) (List.range items.length) 0 ρ ⟨h.t, h'.next⟩ w1 env a (by
          refine ⟨by simp; rfl, ?_⟩
          intro p x hx
          simp [Array.getD]) List.nodup_range (fun p => by simp [L]) (by simpa using hst.len) hinv
      have hcanon := Lay.canon okL g2.bound g2.below items.length g2.len (Nat.le_refl _) (fun q z h2 h3 h4 => g2.behind q z h2 (g3 q h3) h4)
      have hfin : HR C ρ' h' F w' := by
        have := Lay.same_heap okL g2.hr g2.cont hcanon.2 (fun p hp => ⟨g3 p hp, hp⟩) hcanon.1
        have e3 : L.Hf items.length = h' := e2
        rw [e3] at this
        exact this
      have henv : EnvR ρ' env' b a' nt := by
        have hE : E items.length = env' := e1
        refine ⟨?_, ?_, ?_, g2.env.size⟩
        · intro p
          have := g2.env.tmps p
          rw [Lay.env_all okL g2.envS hpre (fun p hp => ⟨g3 p hp, hp⟩) p] at this
          have hE2 : L.E items.length = env' := e1
          rw [hE2] at this
          exact this
        · have h2 := g2.env.defers
          rw [g2.envS.2.1] at h2
          have h3 := hpre.2.1
          have hE2 : L.E items.length = env' := e1
          rw [hE2] at h3
          rw [h3]
          exact h2
        · have h2 := g2.env.round
          rw [g2.envS.1] at h2
          have h3 := hpre.1
          have hE2 : L.E items.length = env' := e1
          rw [hE2] at h3
          rw [h3]
          exact h2
      refine ⟨ρ', a', w', ?_, hfin, henv, ?_, ?_⟩
      · have h2 : Out ρ ρ' (Hf 0).next (Hf items.length).next := g4
        rw [T.h0, e2] at h2
        exact h2
      · exact (⟨rfl, rfl, rfl, Nat.le_refl _⟩ : Same w w1).trans g5
      · have hsched : Region.schedule (C.P.follows .mixedOrders) ops (w.tape w.drawn (.order b.fn id)) = rest := by
          rw [ok.order]
          simp only [Region.schedule, Bool.true_or, if_true, Region.linearise]
          have : Region.linearise.go .any ops ops.size (w.tape w.drawn (.order b.fn id)) (Array.replicate ops.size false) [] = [].reverse ++ rest := g1
          rw [this]; rfl
        have hdraw := stepR_region_draw (P := C.P) (b := b) (a := a) (k := k) (cs := cs) (w := w) (ops := ops) (id := id)
        rw [hsched] at hdraw
        have hend := stepR_region_end (P := C.P) (b := b) (a := a') (k := k) (cs := cs) (w := w') (ops := ops)
        exact .head hdraw (g6.trans (.one hend))
    · cases hev
  · simp [evalCode, evalD, stepD, wanted, evalOp] at hev

/-- What a call of the program comes to, where the abstract one comes to something. -/
theorem calls_of (ok : C.OK) {T : PT AFunc} (hT : TblOK C T) {n : Nat} {f : Pos} {args : List AV} {v : AV} {h' : Heap} (hev : (fix T n).call f args h = .ok v h') {args' : List Value} (hr : HR C ρ h F w) (hv : VRs ρ args args') (hf : Fr ρ h.next h'.next) :
    Calls C.P f.idx args'.toArray w fun e w' => ∃ ρ' u, e = .returned u ∧ Out ρ ρ' h.next h'.next ∧ VR ρ' v u ∧ HR C ρ' h' F w' ∧ Same w w' :=
  calls_of_run ok hT (fun _ hr => drawn_ok ok _ hr) hev hr hv hf

end
end Go.Am

namespace Go.Am

theorem idxOf_eq (c : Nat) (hc : c < 256) : ∀ (l : List UInt8) (i : Nat), idxOf c (l.map UInt8.toNat) i = if Lib.indexByte l c.toUInt8 = -1 then -1 else Lib.indexByte l c.toUInt8 + i
  | [], i => by simp [idxOf, Lib.indexByte]
  | b :: l, i => by
    have ih := idxOf_eq c hc l (i + 1)
    have hge := Lib.indexByte_ge l c.toUInt8
    have hbc : Nat.beq b.toNat c = (b == c.toUInt8) := by
      rw [Bool.eq_iff_iff]
      have hbt : Nat.beq b.toNat c = true ↔ b.toNat = c := ⟨Nat.eq_of_beq_eq_true, fun e => by rw [e]; exact Nat.beq_refl c⟩
      rw [hbt, beq_iff_eq]
      rw [← UInt8.toNat_inj]
      have : c.toUInt8.toNat = c := by simp [Nat.mod_eq_of_lt hc]
      rw [this]
    simp only [List.map_cons, idxOf]
    by_cases hb : (b == c.toUInt8) = true
    · have e : Lib.indexByte (b :: l) c.toUInt8 = 0 := by
        unfold Lib.indexByte
        rw [if_pos hb]
      rw [e, hbc, hb]
      simp
    · have e : Lib.indexByte (b :: l) c.toUInt8 = if Lib.indexByte l c.toUInt8 == -1 then -1 else Lib.indexByte l c.toUInt8 + 1 := by
        conv => lhs; unfold Lib.indexByte
        rw [if_neg hb]
      rw [Bool.not_eq_true] at hb
      rw [e, hbc, hb]
      simp only
      rw [ih]
      by_cases h : Lib.indexByte l c.toUInt8 = -1
      · simp [h]
      · have h2 : (Lib.indexByte l c.toUInt8 == -1) = false := by simpa using h
        simp only [h, h2, if_false, Bool.false_eq_true]
        rw [if_neg (by omega)]
        omega

/-- What is known of the types below a number. -/
def tyIn (P : Program) (n : Nat) (t : TypeId) : Option TI := match Nat.blt t n with
  | true => tyOf P t
  | false => none

/-- Types that are no rows have one cell. -/
def oneAt (P : Program) (t : Nat) : Bool := match tyOf P t with
  | some i => match i.agg with
    | true => true
    | false => Nat.beq i.size 1
  | none => true

theorem cx_ok {P : Program} {n ib : Nat} {fn : Func} (hone : (List.range n).all (oneAt P) = true) (hf : P.funcs[ib]? = some fn) (hname : (fn.name == "runtime.NumGoroutine") = false)
    (hb : fn.body.isNone = true) (hn : Extern.findNext fn = none) (he : Extern.find fn = some Extern.BytealgIndexByte.indexByte) (ho : P.follows .mixedOrders = true) : Cx.OK ⟨P, tyIn P n, ib⟩ := by
  have low : ∀ {t : TypeId} {i : TI}, tyIn P n t = some i → t < n ∧ tyOf P t = some i := by
    intro t i h
    unfold tyIn at h
    split at h
    · rename_i e; exact ⟨Nat.le_of_ble_eq_true e, h⟩
    · cases h
  have inv : ∀ {t : TypeId} {i : TI}, tyOf P t = some i → ∃ x, P.info? t = some x ∧ P.underlying t = some i.desc ∧ x.size = i.size ∧ x.bytes = i.bytes ∧ i.zero = x.zero.bind ofVal := by
    intro t i h
    unfold tyOf at h
    split at h
    · rename_i x d h1 h2
      cases h
      exact ⟨x, h1, h2, rfl, rfl, rfl⟩
    · cases h
  refine ⟨?_, ?_, ?_, ?_, ho⟩
  · intro t i h
    obtain ⟨x, h1, h2, _⟩ := inv (low h).2
    exact h2
  · intro t i h
    obtain ⟨x, h1, h2, h3, h4, h5⟩ := inv (low h).2
    refine ⟨x, h1, h3, h4, ?_⟩
    intro z hz
    rw [h5] at hz
    exact Option.bind_eq_some_iff.1 hz
  · intro t i h hagg
    obtain ⟨hlt, h'⟩ := low h
    have := List.all_eq_true.1 hone t (List.mem_range.2 hlt)
    unfold oneAt at this
    rw [h'] at this
    simp only [hagg] at this
    exact Nat.eq_of_beq_eq_true this
  · intro s c w hc
    rw [run_callFunc_indexByte hf hname hb hn he, Lib.run_indexByteString]
    simp only [Result.andThen_ok]
    rw [idxOf_eq c hc]
    have : (Int.toNat (c : Int)).toUInt8 = c.toUInt8 := by simp
    rw [this]
    split
    · rename_i h; rw [h]
    · simp

/-- A function of a table is the program's. -/
def GoodAt (P : Program) (n ib : Nat) (f : Pos) (af : AFunc) : Prop := ∃ fn, P.funcs[f.idx]? = some fn ∧ (fn.name == "runtime.NumGoroutine") = false ∧ trFunc (tyIn P n) ib fn = some af

theorem goodAt {P : Program} {n ib : Nat} {f : Pos} {af : AFunc} {fn : Func} {k : Nat} (hf : P.funcs[k]? = some fn) (ht : trFunc (tyIn P n) ib fn = some af) (hn : (fn.name == "runtime.NumGoroutine") = false) (hi : Nat.beq f.idx k = true) : GoodAt P n ib f af :=
  ⟨fn, by rw [Nat.eq_of_beq_eq_true hi]; exact hf, hn, ht⟩

/-- All of a tree. -/
def PT.allAt {α : Type} (q : Pos → α → Prop) : (Pos → Pos) → PT α → Prop
  | _, .E => True
  | k, .N l o r => PT.allAt q (fun p => k (.O p)) l ∧ (match o with | none => True | some a => q (k .H) a) ∧ PT.allAt q (fun p => k (.I p)) r

theorem PT.allAt_get {α : Type} {q : Pos → α → Prop} : ∀ {t : PT α} {k : Pos → Pos}, PT.allAt q k t → ∀ p a, PT.get p t = some a → q (k p) a
  | .E, k, _, p, a, e => by simp at e
  | .N l o r, k, h, .H, a, e => by
    have h2 := h.2.1
    simp only [PT.get] at e
    subst e
    exact h2
  | .N l o r, k, h, .O p, a, e => PT.allAt_get (k := fun p => k (.O p)) h.1 p a e
  | .N l o r, k, h, .I p, a, e => PT.allAt_get (k := fun p => k (.I p)) h.2.2 p a e

theorem tbl_ok {P : Program} {n ib : Nat} {t : PT AFunc} (h : PT.allAt (GoodAt P n ib) (fun p => p) t) : TblOK ⟨P, tyIn P n, ib⟩ t := fun f af e => PT.allAt_get (k := fun p => p) h f af e

end Go.Am

