/- An abstract machine for Go code and its soundness over the model; no condition of its own. Used by the proof that the law TopScheduled returns true at every input. -/
import Derived.Test.YtofefignkpmlbaaGreatRa
/- Rows of places compared; is one in a row? -/
namespace Go.Am
set_option linter.unusedSimpArgs false
set_option linter.unusedVariables false
set_option maxRecDepth 10000
set_option maxHeartbeats 1000000

def lp12 : ACode := (.seq (.region [⟨(some i14), none, .bin .lss (.t i13) (.t i12)⟩]) (.seq (.cond (.t i14) .skip (.exit 0)) (.seq (.block 1 (.seq (.region [⟨(some i15), none, .move (.t i13)⟩, ⟨(some i5), none, .move (.t i15)⟩]) (.seq (.drawn [⟨0, .v, ⟨(some i16), none, .move (.t i0)⟩⟩, ⟨1, .v, ⟨(some i17), none, .move (.t i5)⟩⟩, ⟨2, .v, ⟨(some i18), none, .indexSl 1 (.t i16) (.t i17)⟩⟩, ⟨3, (.r 0), ⟨(some i19), none, .load none (.t i18)⟩⟩, ⟨4, .v, ⟨(some i20), none, .move (.t i1)⟩⟩, ⟨5, .v, ⟨(some i21), none, .move (.t i5)⟩⟩, ⟨6, .v, ⟨(some i22), none, .indexSl 1 (.t i20) (.t i21)⟩⟩, ⟨7, (.r 0), ⟨(some i23), none, .load none (.t i22)⟩⟩, ⟨8, .v, ⟨(some i24), none, .bin (.ne .int) (.t i19) (.t i23)⟩⟩]) (.cond (.t i24) (.seq (.region [⟨(some i4), none, .move (.c (.bool false))⟩]) .ret) .skip)))) (.region [⟨(some i25), none, .bin .add (.t i13) (.c (.int .i64 (.ofNat 1)))⟩, ⟨(some i13), none, .move (.t i25)⟩]))))

theorem App.isInts {h : Heap} {lo : Nat} {s : AV} {vs : List Int} (hA : App h lo s vs) : IsInts h s vs := by
  rcases hA with ⟨rfl, hv⟩ | ⟨p, p1, p2, rfl, hp⟩
  · exact Or.inl ⟨rfl, hv⟩
  · refine Or.inr ⟨p, 0, _, _, _, rfl, hp, ?_⟩
    rw [drop_0]
    exact take_all _ (ints_length _).symm

theorem IsInts.len {h : Heap} {s : AV} {vs : List Int} (hs : IsInts h s vs) : lenOfSlice s = some vs.length := by
  rcases hs with ⟨rfl, rfl⟩ | ⟨b, off, cap, cs, sp, rfl, hb, ht⟩ <;> rfl

theorem same_loop (n : Nat) (h : Heap) (b1 b2 : Pos) (o1 o2 : Nat) (k1 k2 : Cap) (cs1 cs2 : List AV) (sp1 sp2) (vs : List Int) (hb1 : h.get b1 = some (.cells cs1 sp1)) (hb2 : h.get b2 = some (.cells cs2 sp2))
    (ht1 : takeX (dropX cs1 o1) vs.length = some (ints vs)) (ht2 : takeX (dropX cs2 o2) vs.length = some (ints vs)) (hv : vs.length < 1000000) :
    ∀ (m j : Nat) (e : PT AV), vs.length = j + m → PT.get i0 e = some (.slice b1 o1 vs.length k1) → PT.get i1 e = some (.slice b2 o2 vs.length k2) → PT.get i12 e = some (.int .i64 (.ofNat vs.length)) → PT.get i13 e = some (.int .i64 (.ofNat j)) →
      ∃ e', evalCode (fo (n + m + 1)) (.loop lp12) ⟨e, [], none⟩ h = .ok (.exit 0, ⟨e', [], none⟩) h
  | 0, j, e, hj, e0, e1, e12, e13 => by
    generalize hX : evalCode (fo (n + 0 + 1)) (.loop lp12) ⟨e, [], none⟩ h = X
    rw [c_loop] at hX
    simp (disch := first | ((try simp only [Pos.nat_succ, next_new, next_upd, next_del, ints_length, List.length_map, List.length_set, List.length_append, List.length_cons, List.length_nil]) <;> omega) | fail) only [ev0, ev1, ev2, ev3, ev4, ev5, ev6, ev7, ev8, ev9, Nat.reduceAdd, Nat.reduceMul, Nat.reduceSub, lp12, e0, e1, e12, e13] at hX
    subst hX
    exact ⟨_, rfl⟩
  | m + 1, j, e, hj, e0, e1, e12, e13 => by
    have l1 := IsInts.load ht1 (i := j) (by omega)
    have l2 := IsInts.load ht2 (i := j) (by omega)
    have ih := fun e' => same_loop n h b1 b2 o1 o2 k1 k2 cs1 cs2 sp1 sp2 vs hb1 hb2 ht1 ht2 hv m (j + 1) e' (by omega)
    generalize hX : evalCode (fo (n + (m + 1) + 1)) (.loop lp12) ⟨e, [], none⟩ h = X
    rw [show n + (m + 1) + 1 = n + m + 1 + 1 by omega] at hX
    simp only [lp12] at hX ih
    rw [c_loop] at hX
    simp (disch := first | ((try simp only [Pos.nat_succ, next_new, next_upd, next_del, ints_length, List.length_map, List.length_set, List.length_append, List.length_cons, List.length_nil]) <;> omega) | fail) only [ev0, ev1, ev2, ev3, ev4, ev5, ev6, ev7, ev8, ev9, Nat.reduceAdd, Nat.reduceMul, Nat.reduceSub, e0, e1, e12, e13, hb1, hb2, l1, l2, fo_loop] at hX
    subst hX
    refine ih _ ?_ ?_ ?_ ?_ <;> simp only [gsb, Pos.beq, cond_t, cond_f, e0, e1, e12, e13]

theorem same_ints_true (n : Nat) (h : Heap) (s1 s2 : AV) (vs : List Int) (h1 : IsInts h s1 vs) (h2 : IsInts h s2 vs) (hv : vs.length < 1000000) :
    (fo (n + vs.length + 2)).call i15 [s1, s2] h = .ok (.bool true) h := by
  have at15 : PT.get i15 tbl = some af15 := rfl
  have e1 := h1.len
  have e2 := h2.len
  generalize hX : (fo (n + vs.length + 2)).call i15 [s1, s2] h = X
  rw [fo_call (f := i15) rfl] at hX
  have key : ∀ e, PT.get i0 e = some s1 → PT.get i1 e = some s2 → PT.get i12 e = some (.int .i64 (.ofNat vs.length)) → PT.get i13 e = some (.int .i64 (.ofNat 0)) →
      ∃ e', evalCode (fo (n + vs.length + 1)) (.loop lp12) ⟨e, [], none⟩ h = .ok (.exit 0, ⟨e', [], none⟩) h := by
    intro e q0 q1 q12 q13
    cases hvs : vs with
    | nil =>
      subst hvs
      generalize hX : evalCode (fo (n + ([] : List Int).length + 1)) (.loop lp12) ⟨e, [], none⟩ h = X
      rw [c_loop] at hX
      simp only [List.length_nil] at q12
      simp (disch := first | ((try simp only [Pos.nat_succ, next_new, next_upd, next_del, ints_length, List.length_map, List.length_set, List.length_append, List.length_cons, List.length_nil]) <;> omega) | fail) only [ev0, ev1, ev2, ev3, ev4, ev5, ev6, ev7, ev8, ev9, Nat.reduceAdd, Nat.reduceMul, Nat.reduceSub, lp12, q0, q1, q12, q13] at hX
      subst hX
      exact ⟨_, rfl⟩
    | cons v l =>
      rcases h1 with ⟨rfl, hh⟩ | ⟨b1, o1, k1, cs1, sp1, rfl, hb1, ht1⟩
      · rw [hvs] at hh; cases hh
      rcases h2 with ⟨rfl, hh⟩ | ⟨b2, o2, k2, cs2, sp2, rfl, hb2, ht2⟩
      · rw [hvs] at hh; cases hh
      rw [← hvs]
      exact same_loop n h b1 b2 o1 o2 k1 k2 cs1 cs2 sp1 sp2 vs hb1 hb2 ht1 ht2 hv vs.length 0 e (by omega) q0 q1 q12 q13
  simp only [lp12] at key
  simp (disch := first | ((try simp only [Pos.nat_succ, next_new, next_upd, next_del, ints_length, List.length_map, List.length_set, List.length_append, List.length_cons, List.length_nil]) <;> omega) | fail) only [ev0, ev1, ev2, ev3, ev4, ev5, ev6, ev7, ev8, ev9, Nat.reduceAdd, Nat.reduceMul, Nat.reduceSub, at15, af15, e1, e2] at hX
  generalize hE : evalCode _ (.loop _) _ _ = Z at hX
  obtain ⟨e', rfl⟩ : ∃ e', Z = .ok (.exit 0, ⟨e', [], none⟩) h := by
    rw [← hE]
    refine key _ ?_ ?_ ?_ ?_ <;> simp only [get_H, get_O, get_I]
  simp (disch := first | ((try simp only [Pos.nat_succ, next_new, next_upd, next_del, ints_length, List.length_map, List.length_set, List.length_append, List.length_cons, List.length_nil]) <;> omega) | fail) only [ev0, ev1, ev2, ev3, ev4, ev5, ev6, ev7, ev8, ev9, Nat.reduceAdd, Nat.reduceMul, Nat.reduceSub] at hX
  exact hX.symm

theorem getD_set (vs : List Int) (i j : Nat) (v : Int) (hi : i < vs.length) : (vs.set i v).getD j 0 = if i = j then v else vs.getD j 0 := by
  simp only [List.getD_eq_getElem?_getD, List.getElem?_set]
  split
  · subst_vars; simp [hi]
  · rfl
theorem rot_put (vs : List Int) (n fr k : Nat) (v : Int) (hk : k < n) (hf : fr < n) (hn : n ≤ vs.length) : rot (vs.set ((fr + k) % n) v) n fr (k + 1) = rot vs n fr k ++ [v] := by
  have hlt : (fr + k) % n < vs.length := Nat.lt_of_lt_of_le (Nat.mod_lt _ (by omega)) hn
  rw [rot_succ]
  congr 1
  · simp only [rot]
    refine List.map_congr_left ?_
    intro i hi
    have hi : i < k := List.mem_range.1 hi
    rw [getD_set _ _ _ _ hlt, if_neg]
    intro e
    have a1 : (fr + k) % n = if fr + k < n then fr + k else fr + k - n := by
      split
      · exact Nat.mod_eq_of_lt (by omega)
      · rw [Nat.mod_eq_sub_mod (by omega)]; exact Nat.mod_eq_of_lt (by omega)
    have a2 : (fr + i) % n = if fr + i < n then fr + i else fr + i - n := by
      split
      · exact Nat.mod_eq_of_lt (by omega)
      · rw [Nat.mod_eq_sub_mod (by omega)]; exact Nat.mod_eq_of_lt (by omega)
    rw [a1, a2] at e
    split at e <;> split at e <;> omega
  · rw [getD_set _ _ _ _ hlt, if_pos rfl]
theorem rot_cons (vs : List Int) (n fr k : Nat) (hf : fr < n) : rot vs n fr (k + 1) = vs.getD fr 0 :: rot vs n ((fr + 1) % n) k := by
  simp only [rot, List.range_succ_eq_map, List.map_cons, List.map_map]
  congr 1
  · rw [Nat.add_zero, Nat.mod_eq_of_lt hf]
  · refine List.map_congr_left ?_
    intro i hi
    simp only [Function.comp]
    congr 1
    rw [Nat.add_mod ((fr + 1) % n) i n, Nat.mod_mod, ← Nat.add_mod]
    congr 1
    omega
theorem take_tail : ∀ {cs : List AV} {off n : Nat} {x : AV} {l : List AV}, takeX (dropX cs off) (n + 1) = some (x :: l) → takeX (dropX cs (off + 1)) n = some l
  | cs, off, n, x, l, h => by
    cases hd : dropX cs off with
    | nil => rw [hd] at h; simp [takeX] at h
    | cons y r =>
      have : dropX cs (off + 1) = r := by
        have : ∀ (cs : List AV) (off : Nat) (y : AV) (r : List AV), dropX cs off = y :: r → dropX cs (off + 1) = r := by
          intro cs
          induction cs with
          | nil => intro off y r h; cases off <;> simp [dropX] at h
          | cons a cs ih =>
            intro off y r h
            cases off with
            | zero => rw [drop_0] at h; cases h; rw [drop_s, drop_0]
            | succ off => rw [drop_s] at h; rw [drop_s]; exact ih off y r h
        exact this cs off y r hd
      rw [hd, take_s] at h
      rw [this]
      cases hr : takeX r n with
      | none => rw [hr] at h; simp [consO] at h
      | some l' => rw [hr] at h; simp only [consO, Option.some.injEq, List.cons.injEq] at h; rw [h.2]

def apo0 (p : Pos) (off l e : Nat) (h : Heap) : Option AObj → R AV
  | some (.cells _ _) => .ok (.slice p off l (.o e)) h
  | _ => .no 13
theorem app_sl_o0 (k p off l e new h) : appendA k (.slice p off l (.o e)) 0 new h = apo0 p off l e h (h.get p) := by
  simp only [appendA, Heap.get]
  cases h.t.get p with
  | none => rfl
  | some o => cases o <;> rfl

/-- A row in a block of its own. -/
def Row (h : Heap) (lo : Nat) (s : AV) (hs : List Int) : Prop :=
  (s = .nilslice ∧ hs = []) ∨ ∃ (p : Pos) (off : Nat) (cs : List AV) (sp : Option Nat), lo ≤ p.nat ∧ p.nat < h.next.nat ∧ s = .slice p off hs.length (.o 1) ∧ h.get p = some (.cells cs sp) ∧ takeX (dropX cs off) hs.length = some (ints hs)
theorem Row.isInts {h lo s hs} (H : Row h lo s hs) : IsInts h s hs := by
  rcases H with ⟨rfl, hv⟩ | ⟨p, off, cs, sp, h1, h2, rfl, hp, ht⟩
  · exact Or.inl ⟨rfl, hv⟩
  · exact Or.inr ⟨p, off, _, _, _, rfl, hp, ht⟩
theorem Row.keep {h h' : Heap} {lo s hs} (H : Row h lo s hs) (hn : h.next.nat ≤ h'.next.nat) (hk : ∀ p : Pos, lo ≤ p.nat → p.nat < h.next.nat → h'.get p = h.get p) : Row h' lo s hs := by
  rcases H with ⟨rfl, hv⟩ | ⟨p, off, cs, sp, h1, h2, rfl, hp, ht⟩
  · exact Or.inl ⟨rfl, hv⟩
  · exact Or.inr ⟨p, off, cs, sp, h1, by omega, rfl, (hk p h1 h2).trans hp, ht⟩

theorem take_cut : ∀ {n m : Nat} {cs a b : List AV}, takeX cs (n + m) = some (a ++ b) → a.length = n → takeX cs n = some a
  | 0, m, cs, a, b, h, ha => by rw [List.eq_nil_of_length_eq_zero ha, take_0]
  | n + 1, m, [], a, b, h, ha => by rw [show n + 1 + m = (n + m) + 1 by omega] at h; simp [takeX] at h
  | n + 1, m, v :: cs, [], b, h, ha => by simp at ha
  | n + 1, m, v :: cs, x :: a, b, h, ha => by
    rw [show n + 1 + m = (n + m) + 1 by omega, take_s] at h
    rw [take_s]
    cases hr : takeX cs (n + m) with
    | none => rw [hr] at h; simp [consO] at h
    | some r =>
      rw [hr] at h
      simp only [consO, List.cons_append, Option.some.injEq, List.cons.injEq] at h
      obtain ⟨rfl, rfl⟩ := h
      rw [take_cut hr (by simpa using ha)]; rfl
theorem take_rest : ∀ {n : Nat} {m off : Nat} {cs a b : List AV}, takeX (dropX cs off) (n + m) = some (a ++ b) → a.length = n → takeX (dropX cs (off + n)) m = some b
  | 0, m, off, cs, a, b, h, ha => by
    rw [List.eq_nil_of_length_eq_zero ha, Nat.zero_add, List.nil_append] at h
    exact h
  | n + 1, m, off, cs, [], b, h, ha => by simp at ha
  | n + 1, m, off, cs, x :: a, b, h, ha => by
    rw [show n + 1 + m = (n + m) + 1 by omega, List.cons_append] at h
    have := take_tail h
    rw [show off + (n + 1) = off + 1 + n by omega]
    exact take_rest this (by simpa using ha)

def lpW : ACode := (.seq (.region [⟨(some i11), none, .bin .lss (.t i10) (.t i9)⟩]) (.seq (.cond (.t i11) .skip (.exit 0)) (.seq (.block 1 (.seq (.region [⟨(some i12), none, .move (.t i10)⟩, ⟨(some i13), none, .indexSl 1 (.t i8) (.t i10)⟩, ⟨(some i14), none, .load none (.t i13)⟩, ⟨(some i6), none, .move (.t i12)⟩, ⟨(some i7), none, .move (.t i14)⟩]) (.seq (.region [⟨(some i15), none, .move (.t i7)⟩, ⟨(some i16), none, .move (.t i1)⟩, ⟨(some i17), none, .bin (.eq .int) (.t i15) (.t i16)⟩]) (.cond (.t i17) (.seq (.drawn [⟨0, .a, ⟨(some i18), none, .buildSlice [] 0 []⟩⟩, ⟨1, .v, ⟨(some i19), none, .move (.t i0)⟩⟩, ⟨2, .v, ⟨(some i20), none, .move (.t i6)⟩⟩, ⟨3, .v, ⟨(some i21), none, .sliceSl 1 (.t i19) none (some (.t i20)) none⟩⟩, ⟨4, .e, ⟨(some i22), none, .append 1 (.t i18) (.t i21)⟩⟩, ⟨5, .v, ⟨(some i23), none, .move (.t i0)⟩⟩, ⟨6, .v, ⟨(some i24), none, .move (.t i6)⟩⟩, ⟨7, .v, ⟨(some i25), none, .bin .add (.t i24) (.c (.int .i64 (.ofNat 1)))⟩⟩, ⟨8, .v, ⟨(some i26), none, .sliceSl 1 (.t i23) (some (.t i25)) none none⟩⟩, ⟨9, .e, ⟨(some i27), none, .append 1 (.t i22) (.t i26)⟩⟩, ⟨10, .v, ⟨(some i4), none, .move (.t i27)⟩⟩, ⟨11, .v, ⟨(some i5), none, .move (.c (.bool true))⟩⟩]) .ret) .skip)))) (.region [⟨(some i28), none, .bin .add (.t i10) (.c (.int .i64 (.ofNat 1)))⟩, ⟨(some i10), none, .move (.t i28)⟩]))))

theorem without_loop (n : Nat) (h : Heap) (p : Pos) (off : Nat) (cs : List AV) (sp) (vs : List Int) (x : Int) (hp : h.get p = some (.cells cs sp)) (hpn : p.nat < h.next.nat) (ht : takeX (dropX cs off) vs.length = some (ints vs)) (hv : vs.length < 100000) :
    ∀ (m j : Nat) (e : PT AV), vs.length = j + m → x ∉ vs.take j → PT.get i0 e = some (.slice p off vs.length (.o 1)) → PT.get i1 e = some (.int .i64 x) → PT.get i8 e = some (.slice p off vs.length (.o 1)) → PT.get i9 e = some (.int .i64 (.ofNat vs.length)) → PT.get i10 e = some (.int .i64 (.ofNat j)) →
      (x ∉ vs ∧ ∃ e', evalCode (fo (n + m + 1)) (.loop lpW) ⟨e, [], none⟩ h = .ok (.exit 0, ⟨e', [], none⟩) h ∧ PT.get i0 e' = some (.slice p off vs.length (.o 1))) ∨
      (x ∈ vs ∧ ∃ e' h', evalCode (fo (n + m + 1)) (.loop lpW) ⟨e, [], none⟩ h = .ok (.ret, ⟨e', [], none⟩) h' ∧ (PT.get i4 e').isSome = true ∧ PT.get i5 e' = some (.bool true) ∧ Keep h h')
  | 0, j, e, hj, hx, e0, e1, e8, e9, e10 => by
    generalize hX : evalCode (fo (n + 0 + 1)) (.loop lpW) ⟨e, [], none⟩ h = X
    rw [c_loop] at hX
    simp (disch := first | ((try simp only [Pos.nat_succ, next_new, next_upd, next_del, ints_length, List.length_map, List.length_set, List.length_append, List.length_cons, List.length_nil]) <;> omega) | fail) only [ev0, ev1, ev2, ev3, ev4, ev5, ev6, ev7, ev8, ev9, Nat.reduceAdd, Nat.reduceMul, Nat.reduceSub, lpW, e0, e1, e8, e9, e10] at hX
    subst hX
    refine .inl ⟨?_, _, rfl, ?_⟩
    · rwa [List.take_of_length_le (by omega)] at hx
    · simp only [gsb, Pos.beq, cond_t, cond_f, e0]
  | m + 1, j, e, hj, hx, e0, e1, e8, e9, e10 => by
    have hjl : j < vs.length := by omega
    have l1 := IsInts.load ht (i := j) hjl
    have ih := fun e' => without_loop n h p off cs sp vs x hp hpn ht hv m (j + 1) e' (by omega)
    have hsp : vs = vs.take j ++ vs.getD j 0 :: vs.drop (j + 1) := by
      have : vs.getD j 0 = vs[j] := by simp [List.getD, List.getElem?_eq_getElem hjl]
      rw [this, List.getElem_cons_drop, List.take_append_drop]
    generalize hX : evalCode (fo (n + (m + 1) + 1)) (.loop lpW) ⟨e, [], none⟩ h = X
    rw [show n + (m + 1) + 1 = n + m + 1 + 1 by omega] at hX
    rw [c_loop] at hX
    by_cases hxe : vs.getD j 0 = x
    · have hd : decide (vs.getD j 0 = x) = true := decide_eq_true hxe
      have hmem : x ∈ vs := by rw [hsp, hxe]; simp
      have hi : ints vs = ints (vs.take j) ++ (.int .i64 (vs.getD j 0) :: ints (vs.drop (j + 1))) := by
        conv => lhs; rw [hsp]
        rw [ints_app]; rfl
      have hlt : (ints (vs.take j)).length = j := by rw [ints_length, List.length_take]; omega
      rw [hi, show vs.length = j + (m + 1) by omega] at ht
      have t1 := take_cut ht hlt
      have t2 := take_tail (take_rest ht hlt)
      have a1 := all_ints0 (vs.take j)
      have a2 := all_ints0 (vs.drop (j + 1))
      refine .inr ⟨hmem, ?_⟩
      have hsub : vs.length - (j + 1) = m := by omega
      simp only [lpW] at hX
      by_cases hj0 : j = 0
      · subst hj0
        simp only [Nat.add_zero, Nat.zero_add] at l1 t1 t2 hsub
        by_cases hm : m = 0
        · subst hm
          simp (disch := first | ((try simp only [Pos.nat_succ, next_new, next_upd, next_del, ints_length, List.length_map, List.length_set, List.length_append, List.length_cons, List.length_nil]) <;> omega) | fail) only [ev0, ev1, ev2, ev3, ev4, ev5, ev6, ev7, ev8, ev9, Nat.reduceAdd, Nat.reduceMul, Nat.reduceSub, e0, e1, e8, e9, e10, hp, l1, eqI_iff, hd, hsub] at hX
          subst hX
          refine ⟨_, _, rfl, ?_, ?_, ?_, ?_⟩
          · simp only [gsb, Pos.beq, cond_t, cond_f, Option.isSome_some]
          · simp only [gsb, Pos.beq, cond_t, cond_f]
          · simp only [next_upd, next_new, Pos.nat_succ]; omega
          · intro q hq; simp (disch := first | ((try simp only [Pos.nat_succ, next_new, next_upd, next_del, ints_length, List.length_map, List.length_set, List.length_append, List.length_cons, List.length_nil]) <;> omega) | fail) only [ev0, ev1, ev2, ev3, ev4, ev5, ev6, ev7, ev8, ev9, Nat.reduceAdd, Nat.reduceMul, Nat.reduceSub]
        · simp (disch := first | ((try simp only [Pos.nat_succ, next_new, next_upd, next_del, ints_length, List.length_map, List.length_set, List.length_append, List.length_cons, List.length_nil]) <;> omega) | fail) only [ev0, ev1, ev2, ev3, ev4, ev5, ev6, ev7, ev8, ev9, Nat.reduceAdd, Nat.reduceMul, Nat.reduceSub, e0, e1, e8, e9, e10, hp, l1, eqI_iff, hd, t2, a2, hsub] at hX
          subst hX
          refine ⟨_, _, rfl, ?_, ?_, ?_, ?_⟩
          · simp only [gsb, Pos.beq, cond_t, cond_f, Option.isSome_some]
          · simp only [gsb, Pos.beq, cond_t, cond_f]
          · simp only [next_upd, next_new, Pos.nat_succ]; omega
          · intro q hq; simp (disch := first | ((try simp only [Pos.nat_succ, next_new, next_upd, next_del, ints_length, List.length_map, List.length_set, List.length_append, List.length_cons, List.length_nil]) <;> omega) | fail) only [ev0, ev1, ev2, ev3, ev4, ev5, ev6, ev7, ev8, ev9, Nat.reduceAdd, Nat.reduceMul, Nat.reduceSub]
      · rw [show off + j + 1 = off + (j + 1) by omega] at t2
        cases m with
        | zero =>
          simp (disch := first | ((try simp only [Pos.nat_succ, next_new, next_upd, next_del, ints_length, List.length_map, List.length_set, List.length_append, List.length_cons, List.length_nil]) <;> omega) | fail) only [ev0, ev1, ev2, ev3, ev4, ev5, ev6, ev7, ev8, ev9, Nat.reduceAdd, Nat.reduceMul, Nat.reduceSub, e0, e1, e8, e9, e10, hp, l1, eqI_iff, hd, t1, a1, hsub, app_sl_o0, apo0] at hX
          subst hX
          refine ⟨_, _, rfl, ?_, ?_, ?_, ?_⟩
          · simp only [gsb, Pos.beq, cond_t, cond_f, Option.isSome_some]
          · simp only [gsb, Pos.beq, cond_t, cond_f]
          · simp only [next_upd, next_new, Pos.nat_succ]; omega
          · intro q hq; simp (disch := first | ((try simp only [Pos.nat_succ, next_new, next_upd, next_del, ints_length, List.length_map, List.length_set, List.length_append, List.length_cons, List.length_nil]) <;> omega) | fail) only [ev0, ev1, ev2, ev3, ev4, ev5, ev6, ev7, ev8, ev9, Nat.reduceAdd, Nat.reduceMul, Nat.reduceSub]
        | succ m =>
          have hlj : (vs.take j).length = j := by rw [List.length_take]; omega
          simp (disch := first | ((try simp only [Pos.nat_succ, next_new, next_upd, next_del, ints_length, List.length_map, List.length_set, List.length_append, List.length_cons, List.length_nil]) <;> omega) | fail) only [ev0, ev1, ev2, ev3, ev4, ev5, ev6, ev7, ev8, ev9, Nat.reduceAdd, Nat.reduceMul, Nat.reduceSub, e0, e1, e8, e9, e10, hp, l1, eqI_iff, hd, t1, t2, a1, a2, hsub, len_ints0, hlj] at hX
          subst hX
          refine ⟨_, _, rfl, ?_, ?_, ?_, ?_⟩
          · simp only [gsb, Pos.beq, cond_t, cond_f, Option.isSome_some]
          · simp only [gsb, Pos.beq, cond_t, cond_f]
          · simp only [next_upd, next_new, next_del, Pos.nat_succ]; omega
          · intro q hq; simp (disch := first | ((try simp only [Pos.nat_succ, next_new, next_upd, next_del, ints_length, List.length_map, List.length_set, List.length_append, List.length_cons, List.length_nil]) <;> omega) | fail) only [ev0, ev1, ev2, ev3, ev4, ev5, ev6, ev7, ev8, ev9, Nat.reduceAdd, Nat.reduceMul, Nat.reduceSub]
    · have hd : decide (vs.getD j 0 = x) = false := decide_eq_false hxe
      simp only [lpW] at hX ih
      simp (disch := first | ((try simp only [Pos.nat_succ, next_new, next_upd, next_del, ints_length, List.length_map, List.length_set, List.length_append, List.length_cons, List.length_nil]) <;> omega) | fail) only [ev0, ev1, ev2, ev3, ev4, ev5, ev6, ev7, ev8, ev9, Nat.reduceAdd, Nat.reduceMul, Nat.reduceSub, e0, e1, e8, e9, e10, hp, l1, eqI_iff, hd, fo_loop] at hX
      subst hX
      refine ih _ ?_ ?_ ?_ ?_ ?_ ?_ <;> try simp only [gsb, Pos.beq, cond_t, cond_f, e0, e1, e8, e9, e10]
      rw [List.take_add_one, List.getElem?_eq_getElem hjl]
      simp only [Option.toList, List.mem_append, List.mem_singleton]
      intro h
      rcases h with h | h
      · exact hx h
      · apply hxe; rw [h]; simp [List.getD, List.getElem?_eq_getElem hjl]

theorem without7 (n : Nat) (h : Heap) (lo : Nat) (s : AV) (vs : List Int) (x : Int) (hs : Row h lo s vs) (hv : vs.length < 1000) :
    ∃ s' h', (fo (n + vs.length + 2)).call i5 [s, .int .i64 x] h = .ok (.tup [s', .bool (decide (x ∈ vs))]) h' ∧ Keep h h' := by
  have at1 : PT.get i5 tbl = some af5 := rfl
  generalize hX : (fo (n + vs.length + 2)).call i5 [s, .int .i64 x] h = X
  rw [fo_call (f := i5) rfl] at hX
  rcases hs with ⟨rfl, rfl⟩ | ⟨p, off, cs, sp, p1, p2, rfl, hp, ht⟩
  · simp (disch := first | ((try simp only [Pos.nat_succ, next_new, next_upd, next_del, ints_length, List.length_map, List.length_set, List.length_append, List.length_cons, List.length_nil]) <;> omega) | fail) only [ev0, ev1, ev2, ev3, ev4, ev5, ev6, ev7, ev8, ev9, Nat.reduceAdd, Nat.reduceMul, Nat.reduceSub, at1, af5] at hX
    rw [c_loop] at hX
    simp (disch := first | ((try simp only [Pos.nat_succ, next_new, next_upd, next_del, ints_length, List.length_map, List.length_set, List.length_append, List.length_cons, List.length_nil]) <;> omega) | fail) only [ev0, ev1, ev2, ev3, ev4, ev5, ev6, ev7, ev8, ev9, Nat.reduceAdd, Nat.reduceMul, Nat.reduceSub] at hX
    subst hX
    exact ⟨.nilslice, _, by simp, Keep.refl _⟩
  · have key := fun e => without_loop n h p off cs sp vs x hp p2 ht (by omega) vs.length 0 e (by omega) (by simp)
    simp only [lpW] at key
    simp (disch := first | ((try simp only [Pos.nat_succ, next_new, next_upd, next_del, ints_length, List.length_map, List.length_set, List.length_append, List.length_cons, List.length_nil]) <;> omega) | fail) only [ev0, ev1, ev2, ev3, ev4, ev5, ev6, ev7, ev8, ev9, Nat.reduceAdd, Nat.reduceMul, Nat.reduceSub, at1, af5] at hX
    generalize hE : evalCode _ (.loop _) _ _ = Z at hX
    obtain hz : (x ∉ vs ∧ ∃ e', Z = .ok (.exit 0, ⟨e', [], none⟩) h ∧ PT.get i0 e' = some (.slice p off vs.length (.o 1))) ∨ (x ∈ vs ∧ ∃ e' h', Z = .ok (.ret, ⟨e', [], none⟩) h' ∧ (PT.get i4 e').isSome = true ∧ PT.get i5 e' = some (.bool true) ∧ Keep h h') := by
      rw [← hE]
      refine key _ ?_ ?_ ?_ ?_ ?_ <;> simp only [get_H, get_O, get_I]
    rcases hz with ⟨hm, e', rfl, e0⟩ | ⟨hm, e', h', rfl, e4, e5, hK⟩
    · simp (disch := first | ((try simp only [Pos.nat_succ, next_new, next_upd, next_del, ints_length, List.length_map, List.length_set, List.length_append, List.length_cons, List.length_nil]) <;> omega) | fail) only [ev0, ev1, ev2, ev3, ev4, ev5, ev6, ev7, ev8, ev9, Nat.reduceAdd, Nat.reduceMul, Nat.reduceSub, e0] at hX
      subst hX
      exact ⟨_, _, by rw [decide_eq_false hm], Keep.refl _⟩
    · obtain ⟨s', e4⟩ := Option.isSome_iff_exists.1 e4
      simp (disch := first | ((try simp only [Pos.nat_succ, next_new, next_upd, next_del, ints_length, List.length_map, List.length_set, List.length_append, List.length_cons, List.length_nil]) <;> omega) | fail) only [ev0, ev1, ev2, ev3, ev4, ev5, ev6, ev7, ev8, ev9, Nat.reduceAdd, Nat.reduceMul, Nat.reduceSub, e4, e5] at hX
      subst hX
      exact ⟨_, _, by rw [decide_eq_true hm], hK⟩
end Go.Am

/- The scheduler: contracts. -/
namespace Go.Am
set_option linter.unusedSimpArgs false
set_option linter.unusedVariables false
set_option linter.unusedSectionVars false
set_option maxRecDepth 10000
set_option maxHeartbeats 1000000

def schedO (bf : Pos) (n made live busy : Nat) : AObj := .cells [.ptr bf 0, .int .i64 (.ofNat n), .int .i64 (.ofNat made), .int .i64 (.ofNat live), .int .i64 (.ofNat busy)] none

/-- The scheduler in memory. -/
structure SS (h : Heap) (bs bf : Pos) (rs : List Int) (n made live busy : Nat) : Prop where
  hs : h.get bs = some (schedO bf n made live busy)
  hf : ∃ vs fr, h.get bf = some (fifoO vs fr rs.length) ∧ vs.length = 32 ∧ fr < 32 ∧ rot vs 32 fr rs.length = rs
  nb : bf.nat < bs.nat ∧ bs.nat < h.next.nat
/-- But for two blocks memory is as it was. -/
def Kb (h h' : Heap) (bs bf : Pos) : Prop := h.next.nat ≤ h'.next.nat ∧ ∀ q : Pos, q.nat < h.next.nat → q.nat ≠ bs.nat → q.nat ≠ bf.nat → h'.get q = h.get q
theorem Kb.refl (h bs bf) : Kb h h bs bf := ⟨Nat.le_refl _, fun _ _ _ _ => rfl⟩
theorem Kb.trans {a b c : Heap} {bs bf : Pos} (h1 : Kb a b bs bf) (h2 : Kb b c bs bf) : Kb a c bs bf :=
  ⟨Nat.le_trans h1.1 h2.1, fun q hq h3 h4 => (h2.2 q (Nat.lt_of_lt_of_le hq h1.1) h3 h4).trans (h1.2 q hq h3 h4)⟩
theorem Keep.kb {h h' : Heap} (k : Keep h h') (bs bf : Pos) : Kb h h' bs bf := ⟨k.1, fun q hq _ _ => k.2 q hq⟩
theorem Upd.kb {h h' : Heap} {bf : Pos} {o : AObj} (u : Upd h h' bf o) (bs : Pos) : Kb h h' bs bf := ⟨u.1, fun q hq _ h => u.2.2 q hq h⟩
theorem SS.keep {h h' bs bf rs n made live busy} (S : SS h bs bf rs n made live busy) (k : Keep h h') : SS h' bs bf rs n made live busy := by
  obtain ⟨h1, ⟨vs, fr, h2, h3⟩, h4, h5⟩ := S
  exact ⟨k.get h1 h5, ⟨vs, fr, k.get h2 (by omega), h3⟩, h4, Nat.lt_of_lt_of_le h5 k.1⟩

theorem SS.upd {h bs bf rs n made live busy} (S : SS h bs bf rs n made live busy) (made' live' busy' : Nat) : SS (h.upd bs (schedO bf n made' live' busy')) bs bf rs n made' live' busy' ∧ Kb h (h.upd bs (schedO bf n made' live' busy')) bs bf := by
  obtain ⟨hs, ⟨vs, fr, h1, h2, h3, h4⟩, h5, h6⟩ := S
  exact ⟨⟨get_upd_same _ _ _, ⟨vs, fr, (get_upd _ _ _ (by omega)).trans h1, h2, h3, h4⟩, h5, by rw [next_upd]; exact h6⟩, by rw [next_upd]; exact Nat.le_refl _, fun q _ q1 _ => get_upd _ _ _ q1⟩

section
variable (F : Nat) (h : Heap) (bs bf : Pos) (rs : List Int) (n made live busy : Nat)

theorem sched_new (hn : 1 ≤ n) (hn2 : n ≤ 32) : ∃ h', (fo (F + 2)).call i4 [.int .i64 (.ofNat n)] h = .ok (.tup [.ptr h.next.succ 0, .int .i64 (.ofNat 0)]) h' ∧ SS h' h.next.succ h.next [] n 0 0 0 ∧ Keep h h' ∧ h'.next = h.next.succ.succ := by
  have at1 : PT.get i4 tbl = some af4 := rfl
  generalize hX : (fo (F + 2)).call i4 [.int .i64 (.ofNat n)] h = X
  have e1 := fifo_new F h
  rw [fo_call (f := i4) rfl] at hX
  simp (disch := first | ((try simp only [Pos.nat_succ, next_new, next_upd, next_del, ints_length, List.length_map, List.length_set, List.length_append, List.length_cons, List.length_nil]) <;> omega) | fail) only [ev0, ev1, ev2, ev3, ev4, ev5, ev6, ev7, ev8, ev9, Nat.reduceAdd, Nat.reduceMul, Nat.reduceSub, at1, af4, e1] at hX
  subst hX
  refine ⟨_, rfl, ⟨?_, ⟨zeros32, 0, ?_, rfl, by omega, rfl⟩, ?_, ?_⟩, (Keep.new _ _).trans (Keep.new _ _), ?_⟩
  · exact get_new_eq _ _ (by simp only [next_new])
  · simp (disch := first | ((try simp only [Pos.nat_succ, next_new, next_upd, next_del, ints_length, List.length_map, List.length_set, List.length_append, List.length_cons, List.length_nil]) <;> omega) | fail) only [ev0, ev1, ev2, ev3, ev4, ev5, ev6, ev7, ev8, ev9, Nat.reduceAdd, Nat.reduceMul, Nat.reduceSub]; rfl
  · rw [Pos.nat_succ]; omega
  · simp only [next_new, Pos.nat_succ]; omega
  · simp only [next_new]

variable (S : SS h bs bf rs n made live busy)
include S

theorem sched_made : (fo (F + 1)).call i12 [.ptr bs 0] h = .ok (.int .i64 (.ofNat made)) h := by
  have at1 : PT.get i12 tbl = some af12 := rfl
  have hs := S.hs
  rw [fo_call (f := i12) rfl]
  simp (disch := first | ((try simp only [Pos.nat_succ, next_new, next_upd, next_del, ints_length, List.length_map, List.length_set, List.length_append, List.length_cons, List.length_nil]) <;> omega) | fail) only [ev0, ev1, ev2, ev3, ev4, ev5, ev6, ev7, ev8, ev9, Nat.reduceAdd, Nat.reduceMul, Nat.reduceSub, at1, af12, hs, schedO]
theorem sched_live : (fo (F + 1)).call i13 [.ptr bs 0] h = .ok (.int .i64 (.ofNat live)) h := by
  have at1 : PT.get i13 tbl = some af13 := rfl
  have hs := S.hs
  rw [fo_call (f := i13) rfl]
  simp (disch := first | ((try simp only [Pos.nat_succ, next_new, next_upd, next_del, ints_length, List.length_map, List.length_set, List.length_append, List.length_cons, List.length_nil]) <;> omega) | fail) only [ev0, ev1, ev2, ev3, ev4, ev5, ev6, ev7, ev8, ev9, Nat.reduceAdd, Nat.reduceMul, Nat.reduceSub, at1, af13, hs, schedO]
theorem sched_busy : (fo (F + 1)).call i14 [.ptr bs 0] h = .ok (.int .i64 (.ofNat busy)) h := by
  have at1 : PT.get i14 tbl = some af14 := rfl
  have hs := S.hs
  rw [fo_call (f := i14) rfl]
  simp (disch := first | ((try simp only [Pos.nat_succ, next_new, next_upd, next_del, ints_length, List.length_map, List.length_set, List.length_append, List.length_cons, List.length_nil]) <;> omega) | fail) only [ev0, ev1, ev2, ev3, ev4, ev5, ev6, ev7, ev8, ev9, Nat.reduceAdd, Nat.reduceMul, Nat.reduceSub, at1, af14, hs, schedO]

theorem sched_list (hr : rs.length < 90) : ∃ s h', (fo (F + 95)).call i16 [.ptr bs 0] h = .ok s h' ∧ App h' h.next.nat s rs ∧ Keep h h' := by
  have at1 : PT.get i16 tbl = some af16 := rfl
  obtain ⟨hs, ⟨vs, fr, h1, h2, h3, h4⟩, h5, h6⟩ := S
  obtain ⟨s, h', e1, hA, hK⟩ := fifo_list (F + 90 - rs.length) h bf vs fr rs.length h2 h3 hr (by omega) h1
  rw [show F + 90 - rs.length + rs.length + 4 = F + 94 by omega] at e1
  rw [h4] at hA
  generalize hX : (fo (F + 95)).call i16 [.ptr bs 0] h = X
  rw [fo_call (f := i16) rfl] at hX
  simp (disch := first | ((try simp only [Pos.nat_succ, next_new, next_upd, next_del, ints_length, List.length_map, List.length_set, List.length_append, List.length_cons, List.length_nil]) <;> omega) | fail) only [ev0, ev1, ev2, ev3, ev4, ev5, ev6, ev7, ev8, ev9, Nat.reduceAdd, Nat.reduceMul, Nat.reduceSub, at1, af16, hs, schedO, e1] at hX
  subst hX
  exact ⟨_, _, rfl, hA, hK⟩

theorem sched_make_full (hm : n ≤ made) : (fo (F + 1)).call i6 [.ptr bs 0] h = .ok (.tup [.int .i64 (.ofNat 0), .int .i64 (.ofNat 4)]) h := by
  have at1 : PT.get i6 tbl = some af6 := rfl
  have hs := S.hs
  rw [fo_call (f := i6) rfl]
  simp (disch := first | ((try simp only [Pos.nat_succ, next_new, next_upd, next_del, ints_length, List.length_map, List.length_set, List.length_append, List.length_cons, List.length_nil]) <;> omega) | fail) only [ev0, ev1, ev2, ev3, ev4, ev5, ev6, ev7, ev8, ev9, Nat.reduceAdd, Nat.reduceMul, Nat.reduceSub, at1, af6, hs, schedO]

theorem sched_push_arg (t : Nat) (ht : made ≤ t) : (fo (F + 1)).call i10 [.ptr bs 0, .int .i64 (.ofNat t)] h = .ok (.int .i64 (.ofNat 2)) h := by
  have at1 : PT.get i10 tbl = some af10 := rfl
  have hs := S.hs
  rw [fo_call (f := i10) rfl]
  simp (disch := first | ((try simp only [Pos.nat_succ, next_new, next_upd, next_del, ints_length, List.length_map, List.length_set, List.length_append, List.length_cons, List.length_nil]) <;> omega) | fail) only [ev0, ev1, ev2, ev3, ev4, ev5, ev6, ev7, ev8, ev9, Nat.reduceAdd, Nat.reduceMul, Nat.reduceSub, at1, af10, hs, schedO]

theorem sched_push_have (t : Nat) (ht : t < made) (ht2 : t < 32) (hr : rs.length < 90) (hm : Int.ofNat t ∈ rs) : ∃ h', (fo (F + 97)).call i10 [.ptr bs 0, .int .i64 (.ofNat t)] h = .ok (.int .i64 (.ofNat 9)) h' ∧ SS h' bs bf rs n made live busy ∧ Kb h h' bs bf := by
  have at1 : PT.get i10 tbl = some af10 := rfl
  have S0 := S
  obtain ⟨hs, ⟨vs, fr, h1, h2, h3, h4⟩, h5, h6⟩ := S
  obtain ⟨h', e1, hK⟩ := fifo_push_have (F + 90 - rs.length) h bf vs fr rs.length t h2 h3 hr (by omega) h1 ht2 (by rw [h4]; exact hm)
  rw [show F + 90 - rs.length + rs.length + 6 = F + 96 by omega] at e1
  generalize hX : (fo (F + 97)).call i10 [.ptr bs 0, .int .i64 (.ofNat t)] h = X
  rw [fo_call (f := i10) rfl] at hX
  simp (disch := first | ((try simp only [Pos.nat_succ, next_new, next_upd, next_del, ints_length, List.length_map, List.length_set, List.length_append, List.length_cons, List.length_nil]) <;> omega) | fail) only [ev0, ev1, ev2, ev3, ev4, ev5, ev6, ev7, ev8, ev9, Nat.reduceAdd, Nat.reduceMul, Nat.reduceSub, at1, af10, hs, schedO, e1] at hX
  subst hX
  exact ⟨_, rfl, S0.keep hK, hK.kb _ _⟩

theorem sched_push (t : Nat) (ht : t < made) (ht2 : t < 32) (hr : rs.length < 32) (hm : Int.ofNat t ∉ rs) : ∃ h', (fo (F + 97)).call i10 [.ptr bs 0, .int .i64 (.ofNat t)] h = .ok (.int .i64 (.ofNat 0)) h' ∧ SS h' bs bf (rs ++ [.ofNat t]) n made live busy ∧ Kb h h' bs bf := by
  have at1 : PT.get i10 tbl = some af10 := rfl
  obtain ⟨hs, ⟨vs, fr, h1, h2, h3, h4⟩, h5, h6⟩ := S
  obtain ⟨h', e1, hU⟩ := fifo_push (F + 90 - rs.length) h bf vs fr rs.length t h2 h3 hr (by omega) h1 ht2 (by rw [h4]; exact hm)
  rw [show F + 90 - rs.length + rs.length + 6 = F + 96 by omega] at e1
  generalize hX : (fo (F + 97)).call i10 [.ptr bs 0, .int .i64 (.ofNat t)] h = X
  rw [fo_call (f := i10) rfl] at hX
  simp (disch := first | ((try simp only [Pos.nat_succ, next_new, next_upd, next_del, ints_length, List.length_map, List.length_set, List.length_append, List.length_cons, List.length_nil]) <;> omega) | fail) only [ev0, ev1, ev2, ev3, ev4, ev5, ev6, ev7, ev8, ev9, Nat.reduceAdd, Nat.reduceMul, Nat.reduceSub, at1, af10, hs, schedO, e1] at hX
  subst hX
  refine ⟨_, rfl, ⟨(hU.2.2 _ h6 (by omega)).trans hs, ⟨vs.set ((fr + rs.length) % 32) (.ofNat t), fr, ?_, by rw [List.length_set]; exact h2, h3, ?_⟩, h5, Nat.lt_of_lt_of_le h6 hU.1⟩, hU.kb _⟩
  · rw [List.length_append, List.length_cons, List.length_nil]; exact hU.2.1
  · rw [List.length_append, List.length_cons, List.length_nil, rot_put vs 32 fr rs.length (.ofNat t) hr h3 (by omega), h4]

theorem sched_make (hm : made < n) (hn : n ≤ 32) (hr : rs.length < 32) (hlv : live < 1000) (hnm : Int.ofNat made ∉ rs) : ∃ h', (fo (F + 97)).call i6 [.ptr bs 0] h = .ok (.tup [.int .i64 (.ofNat made), .int .i64 (.ofNat 0)]) h' ∧ SS h' bs bf (rs ++ [.ofNat made]) n (made + 1) (live + 1) busy ∧ Kb h h' bs bf := by
  have at1 : PT.get i6 tbl = some af6 := rfl
  obtain ⟨hs, ⟨vs, fr, h1, h2, h3, h4⟩, h5, h6⟩ := S
  obtain ⟨h', e1, hU⟩ := fifo_push (F + 90 - rs.length) (h.upd bs (schedO bf n (made + 1) (live + 1) busy)) bf vs fr rs.length made h2 h3 hr (by rw [next_upd]; omega) ((get_upd _ _ _ (by omega)).trans h1) (by omega) (by rw [h4]; exact hnm)
  rw [show F + 90 - rs.length + rs.length + 6 = F + 96 by omega] at e1
  generalize hX : (fo (F + 97)).call i6 [.ptr bs 0] h = X
  rw [fo_call (f := i6) rfl] at hX
  simp only [schedO] at hs e1
  simp (disch := first | ((try simp only [Pos.nat_succ, next_new, next_upd, next_del, ints_length, List.length_map, List.length_set, List.length_append, List.length_cons, List.length_nil]) <;> omega) | fail) only [ev0, ev1, ev2, ev3, ev4, ev5, ev6, ev7, ev8, ev9, Nat.reduceAdd, Nat.reduceMul, Nat.reduceSub, at1, af6, hs, e1] at hX
  subst hX
  have hn' := hU.1
  rw [next_upd] at hn'
  refine ⟨_, rfl, ⟨(hU.2.2 _ (by rw [next_upd]; exact h6) (by omega)).trans (get_upd_same _ _ _), ⟨vs.set ((fr + rs.length) % 32) (.ofNat made), fr, ?_, by rw [List.length_set]; exact h2, h3, ?_⟩, h5, by omega⟩, hn', ?_⟩
  · rw [List.length_append, List.length_cons, List.length_nil]; exact hU.2.1
  · rw [List.length_append, List.length_cons, List.length_nil, rot_put vs 32 fr rs.length (.ofNat made) hr h3 (by omega), h4]
  · intro q hq q1 q2
    exact (hU.2.2 q (by rw [next_upd]; exact hq) q2).trans (get_upd _ _ _ q1)

theorem sched_back_none (t : Nat) (hb : busy = 0) : (fo (F + 1)).call i7 [.ptr bs 0, .int .i64 (.ofNat t)] h = .ok (.int .i64 (.ofNat 3)) h := by
  have at1 : PT.get i7 tbl = some af7 := rfl
  have hs := S.hs
  subst hb
  rw [fo_call (f := i7) rfl]
  simp (disch := first | ((try simp only [Pos.nat_succ, next_new, next_upd, next_del, ints_length, List.length_map, List.length_set, List.length_append, List.length_cons, List.length_nil]) <;> omega) | fail) only [ev0, ev1, ev2, ev3, ev4, ev5, ev6, ev7, ev8, ev9, Nat.reduceAdd, Nat.reduceMul, Nat.reduceSub, at1, af7, hs, schedO]

theorem sched_back_arg (t : Nat) (hb : 0 < busy) (ht : made ≤ t) : (fo (F + 2)).call i7 [.ptr bs 0, .int .i64 (.ofNat t)] h = .ok (.int .i64 (.ofNat 2)) h := by
  have at1 : PT.get i7 tbl = some af7 := rfl
  have e1 := sched_push_arg F h bs bf rs n made live busy S t ht
  have hs := S.hs
  rw [fo_call (f := i7) rfl]
  simp (disch := first | ((try simp only [Pos.nat_succ, next_new, next_upd, next_del, ints_length, List.length_map, List.length_set, List.length_append, List.length_cons, List.length_nil]) <;> omega) | fail) only [ev0, ev1, ev2, ev3, ev4, ev5, ev6, ev7, ev8, ev9, Nat.reduceAdd, Nat.reduceMul, Nat.reduceSub, at1, af7, hs, schedO, e1]

theorem sched_back_have (t : Nat) (hb : 0 < busy) (ht : t < made) (ht2 : t < 32) (hr : rs.length < 90) (hm : Int.ofNat t ∈ rs) : ∃ h', (fo (F + 98)).call i7 [.ptr bs 0, .int .i64 (.ofNat t)] h = .ok (.int .i64 (.ofNat 9)) h' ∧ SS h' bs bf rs n made live busy ∧ Kb h h' bs bf := by
  have at1 : PT.get i7 tbl = some af7 := rfl
  obtain ⟨h', e1, S1, hK⟩ := sched_push_have F h bs bf rs n made live busy S t ht ht2 hr hm
  have hs := S.hs
  generalize hX : (fo (F + 98)).call i7 [.ptr bs 0, .int .i64 (.ofNat t)] h = X
  rw [fo_call (f := i7) rfl] at hX
  simp (disch := first | ((try simp only [Pos.nat_succ, next_new, next_upd, next_del, ints_length, List.length_map, List.length_set, List.length_append, List.length_cons, List.length_nil]) <;> omega) | fail) only [ev0, ev1, ev2, ev3, ev4, ev5, ev6, ev7, ev8, ev9, Nat.reduceAdd, Nat.reduceMul, Nat.reduceSub, at1, af7, hs, schedO, e1] at hX
  subst hX
  exact ⟨_, rfl, S1, hK⟩

theorem sched_back (t : Nat) (hb : 0 < busy) (hb2 : busy < 1000) (ht : t < made) (ht2 : t < 32) (hr : rs.length < 32) (hm : Int.ofNat t ∉ rs) : ∃ h', (fo (F + 98)).call i7 [.ptr bs 0, .int .i64 (.ofNat t)] h = .ok (.int .i64 (.ofNat 0)) h' ∧ SS h' bs bf (rs ++ [.ofNat t]) n made live (busy - 1) ∧ Kb h h' bs bf := by
  have at1 : PT.get i7 tbl = some af7 := rfl
  obtain ⟨h', e1, S1, hK⟩ := sched_push F h bs bf rs n made live busy S t ht ht2 hr hm
  have hs := S.hs
  have hs1 := S1.hs
  have U := S1.upd made live (busy - 1)
  generalize hX : (fo (F + 98)).call i7 [.ptr bs 0, .int .i64 (.ofNat t)] h = X
  rw [fo_call (f := i7) rfl] at hX
  simp only [schedO] at hs hs1
  simp (disch := first | ((try simp only [Pos.nat_succ, next_new, next_upd, next_del, ints_length, List.length_map, List.length_set, List.length_append, List.length_cons, List.length_nil]) <;> omega) | fail) only [ev0, ev1, ev2, ev3, ev4, ev5, ev6, ev7, ev8, ev9, Nat.reduceAdd, Nat.reduceMul, Nat.reduceSub, at1, af7, hs, hs1, e1] at hX
  subst hX
  exact ⟨_, rfl, U.1, hK.trans U.2⟩

theorem less_none (b : Bool) (hb : busy = 0) : (fo (F + 1)).call i20 [.ptr bs 0, .bool b] h = .ok (.int .i64 (.ofNat 3)) h := by
  have at1 : PT.get i20 tbl = some af20 := rfl
  have hs := S.hs
  subst hb
  rw [fo_call (f := i20) rfl]
  cases b with
  | false => simp (disch := first | ((try simp only [Pos.nat_succ, next_new, next_upd, next_del, ints_length, List.length_map, List.length_set, List.length_append, List.length_cons, List.length_nil]) <;> omega) | fail) only [ev0, ev1, ev2, ev3, ev4, ev5, ev6, ev7, ev8, ev9, Nat.reduceAdd, Nat.reduceMul, Nat.reduceSub, at1, af20, hs, schedO]
  | true =>
    by_cases hl : live = 0
    · subst hl
      simp (disch := first | ((try simp only [Pos.nat_succ, next_new, next_upd, next_del, ints_length, List.length_map, List.length_set, List.length_append, List.length_cons, List.length_nil]) <;> omega) | fail) only [ev0, ev1, ev2, ev3, ev4, ev5, ev6, ev7, ev8, ev9, Nat.reduceAdd, Nat.reduceMul, Nat.reduceSub, at1, af20, hs, schedO]
    · simp (disch := first | ((try simp only [Pos.nat_succ, next_new, next_upd, next_del, ints_length, List.length_map, List.length_set, List.length_append, List.length_cons, List.length_nil]) <;> omega) | fail) only [ev0, ev1, ev2, ev3, ev4, ev5, ev6, ev7, ev8, ev9, Nat.reduceAdd, Nat.reduceMul, Nat.reduceSub, at1, af20, hs, schedO]
theorem less_live (hl : live = 0) : (fo (F + 1)).call i20 [.ptr bs 0, .bool true] h = .ok (.int .i64 (.ofNat 3)) h := by
  have at1 : PT.get i20 tbl = some af20 := rfl
  have hs := S.hs
  subst hl
  rw [fo_call (f := i20) rfl]
  simp (disch := first | ((try simp only [Pos.nat_succ, next_new, next_upd, next_del, ints_length, List.length_map, List.length_set, List.length_append, List.length_cons, List.length_nil]) <;> omega) | fail) only [ev0, ev1, ev2, ev3, ev4, ev5, ev6, ev7, ev8, ev9, Nat.reduceAdd, Nat.reduceMul, Nat.reduceSub, at1, af20, hs, schedO]
theorem less_leave (hb : 0 < busy) (hb2 : busy < 1000) : (fo (F + 1)).call i20 [.ptr bs 0, .bool false] h = .ok (.int .i64 (.ofNat 0)) (h.upd bs (schedO bf n made live (busy - 1))) := by
  have at1 : PT.get i20 tbl = some af20 := rfl
  have hs := S.hs
  rw [fo_call (f := i20) rfl]
  simp only [schedO] at hs ⊢
  simp (disch := first | ((try simp only [Pos.nat_succ, next_new, next_upd, next_del, ints_length, List.length_map, List.length_set, List.length_append, List.length_cons, List.length_nil]) <;> omega) | fail) only [ev0, ev1, ev2, ev3, ev4, ev5, ev6, ev7, ev8, ev9, Nat.reduceAdd, Nat.reduceMul, Nat.reduceSub, at1, af20, hs]
theorem less_end (hb : 0 < busy) (hb2 : busy < 1000) (hl : 0 < live) (hl2 : live < 1000) : (fo (F + 1)).call i20 [.ptr bs 0, .bool true] h = .ok (.int .i64 (.ofNat 0)) (h.upd bs (schedO bf n made (live - 1) (busy - 1))) := by
  have at1 : PT.get i20 tbl = some af20 := rfl
  have hs := S.hs
  rw [fo_call (f := i20) rfl]
  simp only [schedO] at hs ⊢
  simp (disch := first | ((try simp only [Pos.nat_succ, next_new, next_upd, next_del, ints_length, List.length_map, List.length_set, List.length_append, List.length_cons, List.length_nil]) <;> omega) | fail) only [ev0, ev1, ev2, ev3, ev4, ev5, ev6, ev7, ev8, ev9, Nat.reduceAdd, Nat.reduceMul, Nat.reduceSub, at1, af20, hs]
omit S in
theorem leave_is (v : AV) (h' : Heap) (e : (fo (F + 1)).call i20 [.ptr bs 0, .bool false] h = .ok v h') : (fo (F + 2)).call i8 [.ptr bs 0] h = .ok v h' := by
  have at1 : PT.get i8 tbl = some af8 := rfl
  rw [fo_call (f := i8) rfl]
  simp (disch := first | ((try simp only [Pos.nat_succ, next_new, next_upd, next_del, ints_length, List.length_map, List.length_set, List.length_append, List.length_cons, List.length_nil]) <;> omega) | fail) only [ev0, ev1, ev2, ev3, ev4, ev5, ev6, ev7, ev8, ev9, Nat.reduceAdd, Nat.reduceMul, Nat.reduceSub, at1, af8, e]
omit S in
theorem end_is (v : AV) (h' : Heap) (e : (fo (F + 1)).call i20 [.ptr bs 0, .bool true] h = .ok v h') : (fo (F + 2)).call i9 [.ptr bs 0] h = .ok v h' := by
  have at1 : PT.get i9 tbl = some af9 := rfl
  rw [fo_call (f := i9) rfl]
  simp (disch := first | ((try simp only [Pos.nat_succ, next_new, next_upd, next_del, ints_length, List.length_map, List.length_set, List.length_append, List.length_cons, List.length_nil]) <;> omega) | fail) only [ev0, ev1, ev2, ev3, ev4, ev5, ev6, ev7, ev8, ev9, Nat.reduceAdd, Nat.reduceMul, Nat.reduceSub, at1, af9, e]

theorem next_none (hr : rs = []) : ∃ w h', (fo (F + 3)).call i11 [.ptr bs 0] h = .ok (.tup [.int .i64 (.ofNat 0), .int .u8 (.ofNat w)]) h' ∧ w = (if 0 < busy then 2 else if live = 0 then 3 else 4) ∧ SS h' bs bf rs n made live busy ∧ Kb h h' bs bf := by
  have at1 : PT.get i11 tbl = some af11 := rfl
  have at2 : PT.get i21 tbl = some af21 := rfl
  have S0 := S
  obtain ⟨hs, ⟨vs, fr, h1, h2, h3, h4⟩, h5, h6⟩ := S
  subst hr
  have hs' := hs
  simp only [schedO] at hs
  have e1 := fifo_pop_none F (h.new (.cells [.ptr bs 0] none)) bf vs fr h2 ((get_new _ _ (by omega)).trans h1)
  have e2 : ∀ g, g.get bs = some (.cells [.ptr bf 0, .int .i64 (.ofNat n), .int .i64 (.ofNat made), .int .i64 (.ofNat live), .int .i64 (.ofNat busy)] none) → g.get h.next = some (.cells [.ptr bs 0] none) →
      (fo (F + 2)).call i21 [.ptr h.next 0] g = .ok (.int .u8 (.ofNat (if 0 < busy then 2 else if live = 0 then 3 else 4))) g := by
    intro g g1 g2
    rw [fo_call (f := i21) rfl]
    by_cases hb : 0 < busy
    · rw [if_pos hb]
      simp (disch := first | ((try simp only [Pos.nat_succ, next_new, next_upd, next_del, ints_length, List.length_map, List.length_set, List.length_append, List.length_cons, List.length_nil]) <;> omega) | fail) only [ev0, ev1, ev2, ev3, ev4, ev5, ev6, ev7, ev8, ev9, Nat.reduceAdd, Nat.reduceMul, Nat.reduceSub, at2, af21, g1, g2]
    · rw [if_neg hb]
      by_cases hl : live = 0
      · rw [if_pos hl]
        subst hl
        simp (disch := first | ((try simp only [Pos.nat_succ, next_new, next_upd, next_del, ints_length, List.length_map, List.length_set, List.length_append, List.length_cons, List.length_nil]) <;> omega) | fail) only [ev0, ev1, ev2, ev3, ev4, ev5, ev6, ev7, ev8, ev9, Nat.reduceAdd, Nat.reduceMul, Nat.reduceSub, at2, af21, g1, g2]
      · rw [if_neg hl]
        simp (disch := first | ((try simp only [Pos.nat_succ, next_new, next_upd, next_del, ints_length, List.length_map, List.length_set, List.length_append, List.length_cons, List.length_nil]) <;> omega) | fail) only [ev0, ev1, ev2, ev3, ev4, ev5, ev6, ev7, ev8, ev9, Nat.reduceAdd, Nat.reduceMul, Nat.reduceSub, at2, af21, g1, g2]
  have e3 := e2 (h.new (.cells [.ptr bs 0] none)) ((get_new _ _ (by omega)).trans hs) (get_new_same _ _)
  generalize hX : (fo (F + 3)).call i11 [.ptr bs 0] h = X
  rw [fo_call (f := i11) rfl] at hX
  simp (disch := first | ((try simp only [Pos.nat_succ, next_new, next_upd, next_del, ints_length, List.length_map, List.length_set, List.length_append, List.length_cons, List.length_nil]) <;> omega) | fail) only [ev0, ev1, ev2, ev3, ev4, ev5, ev6, ev7, ev8, ev9, Nat.reduceAdd, Nat.reduceMul, Nat.reduceSub, at1, af11, hs, e1, e3] at hX
  subst hX
  exact ⟨_, _, rfl, rfl, S0.keep (Keep.new _ _), (Keep.new _ _).kb _ _⟩

theorem next_some (x : Int) (tl : List Int) (hr : rs = x :: tl) (hr9 : rs.length < 90) (hb2 : busy < 1000) : ∃ h', (fo (F + 3)).call i11 [.ptr bs 0] h = .ok (.tup [.int .i64 x, .int .u8 (.ofNat 1)]) h' ∧ SS h' bs bf tl n made live (busy + 1) ∧ Kb h h' bs bf := by
  have at1 : PT.get i11 tbl = some af11 := rfl
  obtain ⟨hs, ⟨vs, fr, h1, h2, h3, h4⟩, h5, h6⟩ := S
  subst hr
  rw [List.length_cons] at h1 h4 hr9
  rw [rot_cons _ _ _ _ h3, List.cons.injEq] at h4
  simp only [schedO] at hs
  have e1 := fifo_pop F (h.new (.cells [.ptr bs 0] none)) bf vs fr (tl.length + 1) h2 h3 (by omega) hr9 ((get_new _ _ (by omega)).trans h1)
  rw [h4.1] at e1
  generalize hX : (fo (F + 3)).call i11 [.ptr bs 0] h = X
  rw [fo_call (f := i11) rfl] at hX
  simp (disch := first | ((try simp only [Pos.nat_succ, next_new, next_upd, next_del, ints_length, List.length_map, List.length_set, List.length_append, List.length_cons, List.length_nil]) <;> omega) | fail) only [ev0, ev1, ev2, ev3, ev4, ev5, ev6, ev7, ev8, ev9, Nat.reduceAdd, Nat.reduceMul, Nat.reduceSub, at1, af11, hs, e1] at hX
  subst hX
  refine ⟨_, rfl, ⟨get_upd_same _ _ _, ⟨vs, (fr + 1) % 32, ?_, h2, Nat.mod_lt _ (by omega), h4.2⟩, h5, ?_⟩, ?_, ?_⟩
  · simp (disch := first | ((try simp only [Pos.nat_succ, next_new, next_upd, next_del, ints_length, List.length_map, List.length_set, List.length_append, List.length_cons, List.length_nil]) <;> omega) | fail) only [ev0, ev1, ev2, ev3, ev4, ev5, ev6, ev7, ev8, ev9, Nat.reduceAdd, Nat.reduceMul, Nat.reduceSub]
  · simp only [next_upd, next_new, Pos.nat_succ]; omega
  · simp only [next_upd, next_new, Pos.nat_succ]; omega
  · intro q hq q1 q2
    simp (disch := first | ((try simp only [Pos.nat_succ, next_new, next_upd, next_del, ints_length, List.length_map, List.length_set, List.length_append, List.length_cons, List.length_nil]) <;> omega) | fail) only [ev0, ev1, ev2, ev3, ev4, ev5, ev6, ev7, ev8, ev9, Nat.reduceAdd, Nat.reduceMul, Nat.reduceSub]
end
end Go.Am

