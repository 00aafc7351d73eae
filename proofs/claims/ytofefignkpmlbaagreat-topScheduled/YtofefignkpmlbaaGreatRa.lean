/- An abstract machine for Go code and its soundness over the model; no condition of its own. Used by the proof that the law TopScheduled returns true at every input. -/
import Derived.Test.YtofefignkpmlbaaGreatAmH
import Derived.Test.YtofefignkpmlbaaGreatFo
/- The row of tasks: contracts. -/
namespace Go.Am
set_option linter.unusedSimpArgs false
set_option linter.unusedVariables false
set_option maxRecDepth 10000
set_option maxHeartbeats 1000000

/-- Below memory is as it was. -/
def Keep (h h' : Heap) : Prop := h.next.nat ≤ h'.next.nat ∧ ∀ q : Pos, q.nat < h.next.nat → h'.get q = h.get q
theorem Keep.refl (h : Heap) : Keep h h := ⟨Nat.le_refl _, fun _ _ => rfl⟩
theorem Keep.trans {a b c : Heap} (h1 : Keep a b) (h2 : Keep b c) : Keep a c :=
  ⟨Nat.le_trans h1.1 h2.1, fun q hq => (h2.2 q (Nat.lt_of_lt_of_le hq h1.1)).trans (h1.2 q hq)⟩
theorem Keep.new (h : Heap) (o : AObj) : Keep h (h.new o) := ⟨by rw [next_new, Pos.nat_succ]; omega, fun q hq => get_new _ _ (by omega)⟩
theorem Keep.get {h h' : Heap} (k : Keep h h') {b : Pos} {o : AObj} (hb : h.get b = some o) (hn : b.nat < h.next.nat) : h'.get b = some o := (k.2 b hn).trans hb
/-- One block is otherwise. -/
def Upd (h h' : Heap) (b : Pos) (o : AObj) : Prop := h.next.nat ≤ h'.next.nat ∧ h'.get b = some o ∧ ∀ q : Pos, q.nat < h.next.nat → q.nat ≠ b.nat → h'.get q = h.get q

def rot (vs : List Int) (most fr j : Nat) : List Int := (List.range j).map fun i => vs.getD ((fr + i) % most) 0
theorem rot_succ (vs most fr j) : rot vs most fr (j + 1) = rot vs most fr j ++ [vs.getD ((fr + j) % most) 0] := by
  simp only [rot, List.range_succ, List.map_append, List.map_cons, List.map_nil]
theorem rot_length (vs most fr j) : (rot vs most fr j).length = j := by simp only [rot, List.length_map, List.length_range]
theorem rot_get (vs most fr j i) (h : i < j) : vs.getD ((fr + i) % most) 0 ∈ rot vs most fr j := List.mem_map.2 ⟨i, List.mem_range.2 h, rfl⟩

def fifoO (vs : List Int) (fr k : Nat) : AObj := .cells (ints vs ++ [.int .i64 (.ofNat fr), .int .i64 (.ofNat k), .int .i64 (.ofNat 32)]) none

theorem fifo_place (n : Nat) (h : Heap) (b : Pos) (vs : List Int) (fr k i : Nat) (hb : h.get b = some (fifoO vs fr k)) (hl : vs.length = 32) (hf : fr < 32) (hi : i < 100) :
    (fo (n + 1)).call i31 [.ptr b 0, .int .i64 (.ofNat i)] h = .ok (.int .i64 (.ofNat ((fr + i) % 32))) h := by
  have at1 : PT.get i31 tbl = some af31 := rfl
  rw [fo_call (f := i31) rfl]
  simp (disch := first | ((try simp only [Pos.nat_succ, next_new, next_upd, next_del, ints_length, List.length_map, List.length_set, List.length_append, List.length_cons, List.length_nil]) <;> omega) | fail) only [ev0, ev1, ev2, ev3, ev4, ev5, ev6, ev7, ev8, ev9, Nat.reduceAdd, Nat.reduceMul, Nat.reduceSub, at1, af31, hb, fifoO, nth_ints_tail, hl]

def lpEach : ACode := (.seq (.region [⟨(some i10), none, .bin .lss (.t i9) (.t i8)⟩]) (.seq (.cond (.t i10) .skip (.exit 0)) (.seq (.block 1 (.seq (.region [⟨(some i11), none, .move (.t i9)⟩, ⟨(some i4), none, .move (.t i11)⟩]) (.seq (.drawn [⟨3, .v, ⟨(some i15), none, .move (.t i0)⟩⟩, ⟨4, .v, ⟨(some i16), none, .move (.t i4)⟩⟩, ⟨5, .e, ⟨(some i17), none, .call i31 [(.t i15), (.t i16)]⟩⟩, ⟨0, .v, ⟨(some i12), none, .move (.t i1)⟩⟩, ⟨1, .v, ⟨(some i13), none, .move (.t i4)⟩⟩, ⟨2, .v, ⟨(some i14), none, .move (.t i0)⟩⟩, ⟨6, .v, ⟨(some i18), none, .nilCheck (.t i14)⟩⟩, ⟨7, .v, ⟨(some i19), none, .fieldAddr 0 (.t i18)⟩⟩, ⟨8, .v, ⟨(some i20), none, .indexArr 32 1 (.t i19) (.t i17)⟩⟩, ⟨9, (.r 0), ⟨(some i21), none, .load none (.t i20)⟩⟩, ⟨10, .e, ⟨(some i22), none, .callv (.t i12) [(.t i13), (.t i21)]⟩⟩, ⟨11, .v, ⟨(some i23), none, .not (.t i22)⟩⟩]) (.cond (.t i23) .ret .skip)))) (.region [⟨(some i24), none, .bin .add (.t i9) (.c (.int .i64 (.ofNat 1)))⟩, ⟨(some i9), none, .move (.t i24)⟩]))))

structure EachEnv (e : PT AV) (b l : Pos) (k j : Nat) : Prop where
  e0 : PT.get i0 e = some (.ptr b 0)
  e1 : PT.get i1 e = some (.yield l)
  e8 : PT.get i8 e = some (.int .i64 (.ofNat k))
  e9 : PT.get i9 e = some (.int .i64 (.ofNat j))

/-- Going over the row: what holds before each one, what holds where one stops. -/
theorem each_loop (b l : Pos) (vs : List Int) (fr k : Nat) (hl8 : vs.length = 32) (hf : fr < 32) (hk : k < 90) (P Q : Nat → Heap → Prop) (hP : ∀ j h, P j h → h.get b = some (fifoO vs fr k))
    (hy : ∀ n j h, j < k → P j h → ∃ h', ((fo (n + 1)).yield l [.int .i64 (.ofNat j), .int .i64 (vs.getD ((fr + j) % 32) 0)] h = .ok (.bool true) h' ∧ P (j + 1) h') ∨ ((fo (n + 1)).yield l [.int .i64 (.ofNat j), .int .i64 (vs.getD ((fr + j) % 32) 0)] h = .ok (.bool false) h' ∧ Q j h')) (n : Nat) :
    ∀ (m j : Nat) (e : PT AV) (h : Heap), k = j + m → P j h → EachEnv e b l k j →
      ∃ e' h', (evalCode (fo (n + m + 2)) (.loop lpEach) ⟨e, [], none⟩ h = .ok (.exit 0, ⟨e', [], none⟩) h' ∧ P k h') ∨ (evalCode (fo (n + m + 2)) (.loop lpEach) ⟨e, [], none⟩ h = .ok (.ret, ⟨e', [], none⟩) h' ∧ ∃ i, i < k ∧ Q i h')
  | 0, j, e, h, hj, hI, hE => by
    obtain ⟨e0, e1, e8, e9⟩ := hE
    generalize hX : evalCode (fo (n + 0 + 2)) (.loop lpEach) ⟨e, [], none⟩ h = X
    rw [c_loop] at hX
    simp (disch := first | ((try simp only [Pos.nat_succ, next_new, next_upd, next_del, ints_length, List.length_map, List.length_set, List.length_append, List.length_cons, List.length_nil]) <;> omega) | fail) only [ev0, ev1, ev2, ev3, ev4, ev5, ev6, ev7, ev8, ev9, Nat.reduceAdd, Nat.reduceMul, Nat.reduceSub, lpEach, e0, e1, e8, e9] at hX
    subst hX
    have : j = k := by omega
    exact ⟨_, _, .inl ⟨rfl, this ▸ hI⟩⟩
  | m + 1, j, e, h, hj, hI, hE => by
    obtain ⟨e0, e1, e8, e9⟩ := hE
    have hb := hP j h hI
    have hlt : (fr + j) % 32 < 32 := Nat.mod_lt _ (by omega)
    have e2 := fifo_place (n + m + 2) h b vs fr k j hb hl8 hf (by omega)
    have ih := each_loop b l vs fr k hl8 hf hk P Q hP hy n m (j + 1)
    obtain ⟨h1, hy1⟩ := hy (n + m + 2) j h (by omega) hI
    generalize hX : evalCode (fo (n + (m + 1) + 2)) (.loop lpEach) ⟨e, [], none⟩ h = X
    rw [show n + (m + 1) + 2 = n + m + 2 + 1 by omega] at hX
    rw [c_loop] at hX
    rcases hy1 with ⟨ey, hP1⟩ | ⟨ey, hQ1⟩
    · simp only [lpEach, fifoO] at hX ih hb e2
      simp (disch := first | ((try simp only [Pos.nat_succ, next_new, next_upd, next_del, ints_length, List.length_map, List.length_set, List.length_append, List.length_cons, List.length_nil]) <;> omega) | fail) only [ev0, ev1, ev2, ev3, ev4, ev5, ev6, ev7, ev8, ev9, Nat.reduceAdd, Nat.reduceMul, Nat.reduceSub, e0, e1, e8, e9, e2, ey, hb, nth_ints, hl8, fo_loop] at hX
      subst hX
      refine ih _ h1 (by omega) hP1 ?_
      constructor <;> simp only [gsb, Pos.beq, cond_t, cond_f, e0, e1, e8, e9]
    · simp only [lpEach, fifoO] at hX hb e2
      simp (disch := first | ((try simp only [Pos.nat_succ, next_new, next_upd, next_del, ints_length, List.length_map, List.length_set, List.length_append, List.length_cons, List.length_nil]) <;> omega) | fail) only [ev0, ev1, ev2, ev3, ev4, ev5, ev6, ev7, ev8, ev9, Nat.reduceAdd, Nat.reduceMul, Nat.reduceSub, e0, e1, e8, e9, e2, ey, hb, nth_ints, hl8, fo_loop] at hX
      subst hX
      exact ⟨_, _, .inr ⟨rfl, j, by omega, hQ1⟩⟩

theorem fifo_each (b l : Pos) (vs : List Int) (fr k : Nat) (hl8 : vs.length = 32) (hf : fr < 32) (hk : k < 90) (P Q : Nat → Heap → Prop) (hP : ∀ j h, P j h → h.get b = some (fifoO vs fr k))
    (hy : ∀ n j h, j < k → P j h → ∃ h', ((fo (n + 1)).yield l [.int .i64 (.ofNat j), .int .i64 (vs.getD ((fr + j) % 32) 0)] h = .ok (.bool true) h' ∧ P (j + 1) h') ∨ ((fo (n + 1)).yield l [.int .i64 (.ofNat j), .int .i64 (vs.getD ((fr + j) % 32) 0)] h = .ok (.bool false) h' ∧ Q j h')) (n : Nat) (h : Heap) (h0 : P 0 h) :
    ∃ h', (fo (n + k + 3)).call i32 [.ptr b 0, .yield l] h = .ok (.tup []) h' ∧ (P k h' ∨ ∃ i, i < k ∧ Q i h') := by
  have at1 : PT.get i32 tbl = some af32 := rfl
  have hb := hP 0 h h0
  generalize hX : (fo (n + k + 3)).call i32 [.ptr b 0, .yield l] h = X
  have key := fun e hE => each_loop b l vs fr k hl8 hf hk P Q hP hy n k 0 e h (by omega) h0 hE
  rw [fo_call (f := i32) rfl] at hX
  simp only [lpEach, fifoO] at key hX hb
  simp (disch := first | ((try simp only [Pos.nat_succ, next_new, next_upd, next_del, ints_length, List.length_map, List.length_set, List.length_append, List.length_cons, List.length_nil]) <;> omega) | fail) only [ev0, ev1, ev2, ev3, ev4, ev5, ev6, ev7, ev8, ev9, Nat.reduceAdd, Nat.reduceMul, Nat.reduceSub, at1, af32, hb, nth_ints_tail, hl8] at hX
  generalize hE : evalCode _ (.loop _) _ _ = Z at hX
  obtain ⟨e', h', hz⟩ : ∃ e' h', (Z = .ok (.exit 0, ⟨e', [], none⟩) h' ∧ P k h') ∨ (Z = .ok (.ret, ⟨e', [], none⟩) h' ∧ ∃ i, i < k ∧ Q i h') := by
    rw [← hE]
    refine key _ ?_
    constructor <;> simp only [get_H, get_O, get_I]
  rcases hz with ⟨rfl, hz⟩ | ⟨rfl, hz⟩
  · simp (disch := first | ((try simp only [Pos.nat_succ, next_new, next_upd, next_del, ints_length, List.length_map, List.length_set, List.length_append, List.length_cons, List.length_nil]) <;> omega) | fail) only [ev0, ev1, ev2, ev3, ev4, ev5, ev6, ev7, ev8, ev9, Nat.reduceAdd, Nat.reduceMul, Nat.reduceSub] at hX
    subst hX
    exact ⟨_, rfl, .inl hz⟩
  · simp (disch := first | ((try simp only [Pos.nat_succ, next_new, next_upd, next_del, ints_length, List.length_map, List.length_set, List.length_append, List.length_cons, List.length_nil]) <;> omega) | fail) only [ev0, ev1, ev2, ev3, ev4, ev5, ev6, ev7, ev8, ev9, Nat.reduceAdd, Nat.reduceMul, Nat.reduceSub] at hX
    subst hX
    exact ⟨_, rfl, .inr hz⟩
end Go.Am

/- The row of tasks: whether one is there; what is put last, taken first, listed. -/
namespace Go.Am
set_option linter.unusedSimpArgs false
set_option linter.unusedVariables false
set_option maxRecDepth 10000
set_option maxHeartbeats 1000000

def asgAt : ACode := (.seq (.region [⟨(some i6), none, .move (.t i13)⟩]) (.region [⟨(some i7), none, .move (.t i14)⟩]))
def bdyAt : ACode := (.block 1 (.seq (.region [⟨(some i15), none, .move (.t i7)⟩, ⟨(some i16), none, .load none (.t i3)⟩, ⟨(some i17), none, .bin (.eq .int) (.t i15) (.t i16)⟩]) (.cond (.t i17) (.seq (.region [⟨(some i18), none, .move (.t i6)⟩, ⟨none, none, .store none (.t i5) (.t i18)⟩]) (.exit 0)) .skip)))

theorem at_yield_ne (n : Nat) (h : Heap) (l c3 c5 d : Pos) (q t) (j : Nat) (v kk : Int) (hl : h.get l = some (.loop .ready q t [i13, i14] asgAt bdyAt d)) (h3 : h.get c3 = some (.cells [.int .i64 kk] none))
    (t3 : PT.get i3 t = some (.ptr c3 0)) (t5 : PT.get i5 t = some (.ptr c5 0)) (n3 : c3.nat ≠ l.nat) (hv : v ≠ kk) :
    (fo (n + 1)).yield l [.int .i64 (.ofNat j), .int .i64 v] h = .ok (.bool true) (h.upd l (.loop .ready .normal t [i13, i14] asgAt bdyAt d)) := by
  have hd : decide (v = kk) = false := decide_eq_false hv
  rw [fo_yield]
  simp only [asgAt, bdyAt] at hl ⊢
  simp (disch := first | ((try simp only [Pos.nat_succ, next_new, next_upd, next_del, ints_length, List.length_map, List.length_set, List.length_append, List.length_cons, List.length_nil]) <;> omega) | fail) only [ev0, ev1, ev2, ev3, ev4, ev5, ev6, ev7, ev8, ev9, Nat.reduceAdd, Nat.reduceMul, Nat.reduceSub, hl, h3, t3, t5, eqI_iff, hd]

theorem at_yield_eq (n : Nat) (h : Heap) (l c3 c5 d : Pos) (q t) (j : Nat) (kk : Int) (x : AV) (hl : h.get l = some (.loop .ready q t [i13, i14] asgAt bdyAt d)) (h3 : h.get c3 = some (.cells [.int .i64 kk] none)) (h5 : h.get c5 = some (.cells [x] none))
    (t3 : PT.get i3 t = some (.ptr c3 0)) (t5 : PT.get i5 t = some (.ptr c5 0)) (n3 : c3.nat ≠ l.nat) (n5 : c5.nat ≠ l.nat) :
    (fo (n + 1)).yield l [.int .i64 (.ofNat j), .int .i64 kk] h = .ok (.bool false) (((h.upd l (.loop .busy q t [i13, i14] asgAt bdyAt d)).upd c5 (.cells [.int .i64 (.ofNat j)] none)).upd l (.loop .done (.exit 0) t [i13, i14] asgAt bdyAt d)) := by
  rw [fo_yield]
  simp only [asgAt, bdyAt] at hl ⊢
  simp (disch := first | ((try simp only [Pos.nat_succ, next_new, next_upd, next_del, ints_length, List.length_map, List.length_set, List.length_append, List.length_cons, List.length_nil]) <;> omega) | fail) only [ev0, ev1, ev2, ev3, ev4, ev5, ev6, ev7, ev8, ev9, Nat.reduceAdd, Nat.reduceMul, Nat.reduceSub, hl, h3, h5, t3, t5]

structure AtP (h0 : Heap) (N : Nat) (b c3 c5 d l : Pos) (vs : List Int) (fr k : Nat) (kk : Int) (t : PT AV) (j : Nat) (h : Heap) : Prop where
  hb : h.get b = some (fifoO vs fr k)
  h3 : h.get c3 = some (.cells [.int .i64 kk] none)
  h5 : h.get c5 = some (.cells [.int .i64 (.negSucc 0)] none)
  hl : ∃ q, h.get l = some (.loop .ready q t [i13, i14] asgAt bdyAt d) ∧ q = .normal
  hd : h.get d = some .deferred
  hne : ∀ i, i < j → vs.getD ((fr + i) % 32) 0 ≠ kk
  hN : N + 4 ≤ h.next.nat
  hf : ∀ q : Pos, q.nat < N → h.get q = h0.get q

structure AtQ (h0 : Heap) (N : Nat) (b c3 c5 d l : Pos) (vs : List Int) (fr k : Nat) (kk : Int) (t : PT AV) (j : Nat) (h : Heap) : Prop where
  h5 : h.get c5 = some (.cells [.int .i64 (.ofNat j)] none)
  hl : h.get l = some (.loop .done (.exit 0) t [i13, i14] asgAt bdyAt d)
  hd : h.get d = some .deferred
  he : vs.getD ((fr + j) % 32) 0 = kk
  hN : N + 4 ≤ h.next.nat
  hf : ∀ q : Pos, q.nat < N → h.get q = h0.get q

theorem fifo_at (n : Nat) (h : Heap) (b : Pos) (vs : List Int) (fr k : Nat) (kk : Int) (hl8 : vs.length = 32) (hf : fr < 32) (hk : k < 90) (nb : b.nat < h.next.nat) (hb : h.get b = some (fifoO vs fr k)) :
    ∃ x h', (fo (n + k + 4)).call i49 [.ptr b 0, .int .i64 kk] h = .ok (.int .i64 x) h' ∧ Keep h h' ∧ ((x = .negSucc 0 ∧ kk ∉ rot vs 32 fr k) ∨ (∃ j, x = .ofNat j ∧ kk ∈ rot vs 32 fr k)) := by
  have at1 : PT.get i49 tbl = some af49 := rfl
  generalize hX : (fo (n + k + 4)).call i49 [.ptr b 0, .int .i64 kk] h = X
  have key := fun t (t3 : PT.get i3 t = some (.ptr h.next 0)) (t5 : PT.get i5 t = some (.ptr h.next.succ 0)) =>
    fifo_each b h.next.succ.succ.succ vs fr k hl8 hf hk (AtP h h.next.nat b h.next h.next.succ h.next.succ.succ h.next.succ.succ.succ vs fr k kk t) (AtQ h h.next.nat b h.next h.next.succ h.next.succ.succ h.next.succ.succ.succ vs fr k kk t)
    (fun j h1 H => H.hb)
    (fun m j h1 hj H => by
      obtain ⟨q1, q2, q3, ⟨q0, q4, rfl⟩, q5, q6, q7, q8⟩ := H
      by_cases hv : vs.getD ((fr + j) % 32) 0 = kk
      · refine ⟨_, .inr ⟨by rw [hv]; exact at_yield_eq m h1 _ h.next h.next.succ _ .normal t j kk _ q4 q2 q3 t3 t5 (by simp only [Pos.nat_succ]; omega) (by simp only [Pos.nat_succ]; omega), ?_⟩⟩
        constructor
        · simp (disch := first | ((try simp only [Pos.nat_succ, next_new, next_upd, next_del, ints_length, List.length_map, List.length_set, List.length_append, List.length_cons, List.length_nil]) <;> omega) | fail) only [ev0, ev1, ev2, ev3, ev4, ev5, ev6, ev7, ev8, ev9, Nat.reduceAdd, Nat.reduceMul, Nat.reduceSub]
        · simp (disch := first | ((try simp only [Pos.nat_succ, next_new, next_upd, next_del, ints_length, List.length_map, List.length_set, List.length_append, List.length_cons, List.length_nil]) <;> omega) | fail) only [ev0, ev1, ev2, ev3, ev4, ev5, ev6, ev7, ev8, ev9, Nat.reduceAdd, Nat.reduceMul, Nat.reduceSub]
        · simp (disch := first | ((try simp only [Pos.nat_succ, next_new, next_upd, next_del, ints_length, List.length_map, List.length_set, List.length_append, List.length_cons, List.length_nil]) <;> omega) | fail) only [ev0, ev1, ev2, ev3, ev4, ev5, ev6, ev7, ev8, ev9, Nat.reduceAdd, Nat.reduceMul, Nat.reduceSub, q5]
        · exact hv
        · simp only [next_upd]; exact q7
        · intro p hp; simp (disch := first | ((try simp only [Pos.nat_succ, next_new, next_upd, next_del, ints_length, List.length_map, List.length_set, List.length_append, List.length_cons, List.length_nil]) <;> omega) | fail) only [ev0, ev1, ev2, ev3, ev4, ev5, ev6, ev7, ev8, ev9, Nat.reduceAdd, Nat.reduceMul, Nat.reduceSub, q8]
      · refine ⟨_, .inl ⟨at_yield_ne m h1 _ h.next h.next.succ _ .normal t j _ kk q4 q2 t3 t5 (by simp only [Pos.nat_succ]; omega) hv, ?_⟩⟩
        constructor
        · simp (disch := first | ((try simp only [Pos.nat_succ, next_new, next_upd, next_del, ints_length, List.length_map, List.length_set, List.length_append, List.length_cons, List.length_nil]) <;> omega) | fail) only [ev0, ev1, ev2, ev3, ev4, ev5, ev6, ev7, ev8, ev9, Nat.reduceAdd, Nat.reduceMul, Nat.reduceSub, q1]
        · simp (disch := first | ((try simp only [Pos.nat_succ, next_new, next_upd, next_del, ints_length, List.length_map, List.length_set, List.length_append, List.length_cons, List.length_nil]) <;> omega) | fail) only [ev0, ev1, ev2, ev3, ev4, ev5, ev6, ev7, ev8, ev9, Nat.reduceAdd, Nat.reduceMul, Nat.reduceSub, q2]
        · simp (disch := first | ((try simp only [Pos.nat_succ, next_new, next_upd, next_del, ints_length, List.length_map, List.length_set, List.length_append, List.length_cons, List.length_nil]) <;> omega) | fail) only [ev0, ev1, ev2, ev3, ev4, ev5, ev6, ev7, ev8, ev9, Nat.reduceAdd, Nat.reduceMul, Nat.reduceSub, q3]
        · exact ⟨.normal, by simp (disch := first | ((try simp only [Pos.nat_succ, next_new, next_upd, next_del, ints_length, List.length_map, List.length_set, List.length_append, List.length_cons, List.length_nil]) <;> omega) | fail) only [ev0, ev1, ev2, ev3, ev4, ev5, ev6, ev7, ev8, ev9, Nat.reduceAdd, Nat.reduceMul, Nat.reduceSub], rfl⟩
        · simp (disch := first | ((try simp only [Pos.nat_succ, next_new, next_upd, next_del, ints_length, List.length_map, List.length_set, List.length_append, List.length_cons, List.length_nil]) <;> omega) | fail) only [ev0, ev1, ev2, ev3, ev4, ev5, ev6, ev7, ev8, ev9, Nat.reduceAdd, Nat.reduceMul, Nat.reduceSub, q5]
        · intro i hi
          by_cases hij : i = j
          · rw [hij]; exact hv
          · exact q6 i (by omega)
        · simp only [next_upd]; exact q7
        · intro p hp; simp (disch := first | ((try simp only [Pos.nat_succ, next_new, next_upd, next_del, ints_length, List.length_map, List.length_set, List.length_append, List.length_cons, List.length_nil]) <;> omega) | fail) only [ev0, ev1, ev2, ev3, ev4, ev5, ev6, ev7, ev8, ev9, Nat.reduceAdd, Nat.reduceMul, Nat.reduceSub, q8])
    n ((((h.new (.cells [.int .i64 kk] none)).new (.cells [.int .i64 (.negSucc 0)] none)).new .deferred).new (.loop .ready .normal t [i13, i14] asgAt bdyAt h.next.succ.succ))
    (by
      constructor
      · simp (disch := first | ((try simp only [Pos.nat_succ, next_new, next_upd, next_del, ints_length, List.length_map, List.length_set, List.length_append, List.length_cons, List.length_nil]) <;> omega) | fail) only [ev0, ev1, ev2, ev3, ev4, ev5, ev6, ev7, ev8, ev9, Nat.reduceAdd, Nat.reduceMul, Nat.reduceSub, hb]
      · simp (disch := first | ((try simp only [Pos.nat_succ, next_new, next_upd, next_del, ints_length, List.length_map, List.length_set, List.length_append, List.length_cons, List.length_nil]) <;> omega) | fail) only [ev0, ev1, ev2, ev3, ev4, ev5, ev6, ev7, ev8, ev9, Nat.reduceAdd, Nat.reduceMul, Nat.reduceSub]
      · simp (disch := first | ((try simp only [Pos.nat_succ, next_new, next_upd, next_del, ints_length, List.length_map, List.length_set, List.length_append, List.length_cons, List.length_nil]) <;> omega) | fail) only [ev0, ev1, ev2, ev3, ev4, ev5, ev6, ev7, ev8, ev9, Nat.reduceAdd, Nat.reduceMul, Nat.reduceSub]
      · exact ⟨.normal, by simp (disch := first | ((try simp only [Pos.nat_succ, next_new, next_upd, next_del, ints_length, List.length_map, List.length_set, List.length_append, List.length_cons, List.length_nil]) <;> omega) | fail) only [ev0, ev1, ev2, ev3, ev4, ev5, ev6, ev7, ev8, ev9, Nat.reduceAdd, Nat.reduceMul, Nat.reduceSub], rfl⟩
      · simp (disch := first | ((try simp only [Pos.nat_succ, next_new, next_upd, next_del, ints_length, List.length_map, List.length_set, List.length_append, List.length_cons, List.length_nil]) <;> omega) | fail) only [ev0, ev1, ev2, ev3, ev4, ev5, ev6, ev7, ev8, ev9, Nat.reduceAdd, Nat.reduceMul, Nat.reduceSub]
      · intro i hi; omega
      · simp only [next_new, Pos.nat_succ]; omega
      · intro q hq; simp (disch := first | ((try simp only [Pos.nat_succ, next_new, next_upd, next_del, ints_length, List.length_map, List.length_set, List.length_append, List.length_cons, List.length_nil]) <;> omega) | fail) only [ev0, ev1, ev2, ev3, ev4, ev5, ev6, ev7, ev8, ev9, Nat.reduceAdd, Nat.reduceMul, Nat.reduceSub])
  rw [fo_call (f := i49) rfl] at hX
  simp only [asgAt, bdyAt] at key
  simp (disch := first | ((try simp only [Pos.nat_succ, next_new, next_upd, next_del, ints_length, List.length_map, List.length_set, List.length_append, List.length_cons, List.length_nil]) <;> omega) | fail) only [ev0, ev1, ev2, ev3, ev4, ev5, ev6, ev7, ev8, ev9, Nat.reduceAdd, Nat.reduceMul, Nat.reduceSub, at1, af49] at hX
  generalize hE : (fo (n + k + 3)).call _ _ _ = Z at hX
  obtain ⟨t, h1, rfl, hz⟩ : ∃ t h1, Z = .ok (.tup []) h1 ∧ (AtP h h.next.nat b h.next h.next.succ h.next.succ.succ h.next.succ.succ.succ vs fr k kk t k h1 ∨ ∃ i, i < k ∧ AtQ h h.next.nat b h.next h.next.succ h.next.succ.succ h.next.succ.succ.succ vs fr k kk t i h1) := by
    rw [← hE]
    exact ⟨_, key _ (by simp only [get_H, get_O, get_I]) (by simp only [get_H, get_O, get_I])⟩
  rcases hz with ⟨q1, q2, q3, ⟨q0, q4, rfl⟩, q5, q6, q7, q8⟩ | ⟨i, hi, q3, q4, q5, q6, q7, q8⟩
  · simp (disch := first | ((try simp only [Pos.nat_succ, next_new, next_upd, next_del, ints_length, List.length_map, List.length_set, List.length_append, List.length_cons, List.length_nil]) <;> omega) | fail) only [ev0, ev1, ev2, ev3, ev4, ev5, ev6, ev7, ev8, ev9, Nat.reduceAdd, Nat.reduceMul, Nat.reduceSub, q3, q4, q5] at hX
    subst hX
    refine ⟨_, _, rfl, ⟨?_, ?_⟩, .inl ⟨rfl, ?_⟩⟩
    · simp only [next_upd, next_del]; omega
    · intro q hq; simp (disch := first | ((try simp only [Pos.nat_succ, next_new, next_upd, next_del, ints_length, List.length_map, List.length_set, List.length_append, List.length_cons, List.length_nil]) <;> omega) | fail) only [ev0, ev1, ev2, ev3, ev4, ev5, ev6, ev7, ev8, ev9, Nat.reduceAdd, Nat.reduceMul, Nat.reduceSub, q8]
    · intro hm
      obtain ⟨i, hi, he⟩ := List.mem_map.1 hm
      exact q6 i (List.mem_range.1 hi) he
  · simp (disch := first | ((try simp only [Pos.nat_succ, next_new, next_upd, next_del, ints_length, List.length_map, List.length_set, List.length_append, List.length_cons, List.length_nil]) <;> omega) | fail) only [ev0, ev1, ev2, ev3, ev4, ev5, ev6, ev7, ev8, ev9, Nat.reduceAdd, Nat.reduceMul, Nat.reduceSub, q3, q4, q5] at hX
    subst hX
    refine ⟨_, _, rfl, ⟨?_, ?_⟩, .inr ⟨i, rfl, ?_⟩⟩
    · simp only [next_upd, next_del]; omega
    · intro q hq; simp (disch := first | ((try simp only [Pos.nat_succ, next_new, next_upd, next_del, ints_length, List.length_map, List.length_set, List.length_append, List.length_cons, List.length_nil]) <;> omega) | fail) only [ev0, ev1, ev2, ev3, ev4, ev5, ev6, ev7, ev8, ev9, Nat.reduceAdd, Nat.reduceMul, Nat.reduceSub, q8]
    · rw [← q6]; exact rot_get _ _ _ _ _ hi

theorem fifo_has (n : Nat) (h : Heap) (b : Pos) (vs : List Int) (fr k : Nat) (kk : Int) (hl8 : vs.length = 32) (hf : fr < 32) (hk : k < 90) (nb : b.nat < h.next.nat) (hb : h.get b = some (fifoO vs fr k)) :
    ∃ h', (fo (n + k + 5)).call i30 [.ptr b 0, .int .i64 kk] h = .ok (.bool (decide (kk ∈ rot vs 32 fr k))) h' ∧ Keep h h' := by
  have at1 : PT.get i30 tbl = some af30 := rfl
  generalize hX : (fo (n + k + 5)).call i30 [.ptr b 0, .int .i64 kk] h = X
  obtain ⟨x, h', e1, hK, hc⟩ := fifo_at n h b vs fr k kk hl8 hf hk nb hb
  rw [fo_call (f := i30) rfl] at hX
  rcases hc with ⟨rfl, hm⟩ | ⟨j, rfl, hm⟩
  · have hlt : ltI (Int.negSucc 0) (Int.ofNat 0) = true := rfl
    simp (disch := first | ((try simp only [Pos.nat_succ, next_new, next_upd, next_del, ints_length, List.length_map, List.length_set, List.length_append, List.length_cons, List.length_nil]) <;> omega) | fail) only [ev0, ev1, ev2, ev3, ev4, ev5, ev6, ev7, ev8, ev9, Nat.reduceAdd, Nat.reduceMul, Nat.reduceSub, at1, af30, e1, hlt] at hX
    subst hX
    exact ⟨_, by rw [decide_eq_false hm], hK⟩
  · simp (disch := first | ((try simp only [Pos.nat_succ, next_new, next_upd, next_del, ints_length, List.length_map, List.length_set, List.length_append, List.length_cons, List.length_nil]) <;> omega) | fail) only [ev0, ev1, ev2, ev3, ev4, ev5, ev6, ev7, ev8, ev9, Nat.reduceAdd, Nat.reduceMul, Nat.reduceSub, at1, af30, e1] at hX
    subst hX
    exact ⟨_, by rw [decide_eq_true hm], hK⟩

theorem fifo_push_have (n : Nat) (h : Heap) (b : Pos) (vs : List Int) (fr k t : Nat) (hl8 : vs.length = 32) (hf : fr < 32) (hk : k < 90) (nb : b.nat < h.next.nat) (hb : h.get b = some (fifoO vs fr k)) (ht : t < 32) (hm : Int.ofNat t ∈ rot vs 32 fr k) :
    ∃ h', (fo (n + k + 6)).call i19 [.ptr b 0, .int .i64 (.ofNat t)] h = .ok (.int .i64 (.ofNat 9)) h' ∧ Keep h h' := by
  have at1 : PT.get i19 tbl = some af19 := rfl
  generalize hX : (fo (n + k + 6)).call i19 [.ptr b 0, .int .i64 (.ofNat t)] h = X
  obtain ⟨h', e1, hK⟩ := fifo_has n h b vs fr k (.ofNat t) hl8 hf hk nb hb
  rw [decide_eq_true hm] at e1
  rw [fo_call (f := i19) rfl] at hX
  simp (disch := first | ((try simp only [Pos.nat_succ, next_new, next_upd, next_del, ints_length, List.length_map, List.length_set, List.length_append, List.length_cons, List.length_nil]) <;> omega) | fail) only [ev0, ev1, ev2, ev3, ev4, ev5, ev6, ev7, ev8, ev9, Nat.reduceAdd, Nat.reduceMul, Nat.reduceSub, at1, af19, e1] at hX
  subst hX
  exact ⟨_, rfl, hK⟩

theorem fifo_push (n : Nat) (h : Heap) (b : Pos) (vs : List Int) (fr k t : Nat) (hl8 : vs.length = 32) (hf : fr < 32) (hk : k < 32) (nb : b.nat < h.next.nat) (hb : h.get b = some (fifoO vs fr k)) (ht : t < 32) (hm : Int.ofNat t ∉ rot vs 32 fr k) :
    ∃ h', (fo (n + k + 6)).call i19 [.ptr b 0, .int .i64 (.ofNat t)] h = .ok (.int .i64 (.ofNat 0)) h' ∧ Upd h h' b (fifoO (vs.set ((fr + k) % 32) (.ofNat t)) fr (k + 1)) := by
  have at1 : PT.get i19 tbl = some af19 := rfl
  generalize hX : (fo (n + k + 6)).call i19 [.ptr b 0, .int .i64 (.ofNat t)] h = X
  obtain ⟨h', e1, hK⟩ := fifo_has n h b vs fr k (.ofNat t) hl8 hf (by omega) nb hb
  rw [decide_eq_false hm] at e1
  have hb' := hK.get hb nb
  have hlt : (fr + k) % 32 < 32 := Nat.mod_lt _ (by omega)
  have e2 := fifo_place (n + k + 4) h' b vs fr k k hb' hl8 hf (by omega)
  have hn := hK.1
  rw [fo_call (f := i19) rfl] at hX
  simp only [fifoO] at hb' hb
  simp (disch := first | ((try simp only [Pos.nat_succ, next_new, next_upd, next_del, ints_length, List.length_map, List.length_set, List.length_append, List.length_cons, List.length_nil]) <;> omega) | fail) only [ev0, ev1, ev2, ev3, ev4, ev5, ev6, ev7, ev8, ev9, Nat.reduceAdd, Nat.reduceMul, Nat.reduceSub, at1, af19, e1, e2, hb', hb, nth_ints_tail, hl8, wa_ints_tail, wa_ints, appO, List.length_set] at hX
  subst hX
  refine ⟨_, rfl, ?_, ?_, ?_⟩
  · simp only [next_upd]; exact hn
  · simp (disch := first | ((try simp only [Pos.nat_succ, next_new, next_upd, next_del, ints_length, List.length_map, List.length_set, List.length_append, List.length_cons, List.length_nil]) <;> omega) | fail) only [ev0, ev1, ev2, ev3, ev4, ev5, ev6, ev7, ev8, ev9, Nat.reduceAdd, Nat.reduceMul, Nat.reduceSub, fifoO]
  · intro q hq hqb
    simp (disch := first | ((try simp only [Pos.nat_succ, next_new, next_upd, next_del, ints_length, List.length_map, List.length_set, List.length_append, List.length_cons, List.length_nil]) <;> omega) | fail) only [ev0, ev1, ev2, ev3, ev4, ev5, ev6, ev7, ev8, ev9, Nat.reduceAdd, Nat.reduceMul, Nat.reduceSub, hK.2 q hq]

theorem fifo_pop (n : Nat) (h : Heap) (b : Pos) (vs : List Int) (fr k : Nat) (hl8 : vs.length = 32) (hf : fr < 32) (hk : 0 < k) (hk9 : k < 90) (hb : h.get b = some (fifoO vs fr k)) :
    (fo (n + 2)).call i22 [.ptr b 0] h = .ok (.tup [.int .i64 (vs.getD fr 0), .int .i64 (.ofNat 0)]) (h.upd b (fifoO vs ((fr + 1) % 32) (k - 1))) := by
  have at1 : PT.get i22 tbl = some af22 := rfl
  have e2 := fifo_place n h b vs fr k 1 hb hl8 hf (by omega)
  rw [fo_call (f := i22) rfl]
  simp (disch := first | ((try simp only [Pos.nat_succ, next_new, next_upd, next_del, ints_length, List.length_map, List.length_set, List.length_append, List.length_cons, List.length_nil]) <;> omega) | fail) only [ev0, ev1, ev2, ev3, ev4, ev5, ev6, ev7, ev8, ev9, Nat.reduceAdd, Nat.reduceMul, Nat.reduceSub, at1, af22, hb, fifoO, nth_ints_tail, nth_ints, hl8, e2, wa_ints_tail, wa_ints, appO, List.length_set]

theorem fifo_pop_none (n : Nat) (h : Heap) (b : Pos) (vs : List Int) (fr : Nat) (hl8 : vs.length = 32) (hb : h.get b = some (fifoO vs fr 0)) :
    (fo (n + 2)).call i22 [.ptr b 0] h = .ok (.tup [.int .i64 (.ofNat 0), .int .i64 (.ofNat 3)]) h := by
  have at1 : PT.get i22 tbl = some af22 := rfl
  rw [fo_call (f := i22) rfl]
  simp (disch := first | ((try simp only [Pos.nat_succ, next_new, next_upd, next_del, ints_length, List.length_map, List.length_set, List.length_append, List.length_cons, List.length_nil]) <;> omega) | fail) only [ev0, ev1, ev2, ev3, ev4, ev5, ev6, ev7, ev8, ev9, Nat.reduceAdd, Nat.reduceMul, Nat.reduceSub, at1, af22, hb, fifoO, nth_ints_tail, hl8]

def zeros32 : List Int := List.replicate 32 0
theorem fifo_new (n : Nat) (h : Heap) : (fo (n + 1)).call i18 [.int .i64 (.ofNat 32)] h = .ok (.tup [.ptr h.next 0, .int .i64 (.ofNat 0)]) (h.new (fifoO zeros32 0 0)) := by
  have at1 : PT.get i18 tbl = some af18 := rfl
  rw [fo_call (f := i18) rfl]
  simp (disch := first | ((try simp only [Pos.nat_succ, next_new, next_upd, next_del, ints_length, List.length_map, List.length_set, List.length_append, List.length_cons, List.length_nil]) <;> omega) | fail) only [ev0, ev1, ev2, ev3, ev4, ev5, ev6, ev7, ev8, ev9, Nat.reduceAdd, Nat.reduceMul, Nat.reduceSub, at1, af18]
  rfl
end Go.Am

/- The row of tasks, listed; rows compared; is one in a row? -/
namespace Go.Am
set_option linter.unusedSimpArgs false
set_option linter.unusedVariables false
set_option maxRecDepth 10000
set_option maxHeartbeats 1000000

def asgFL : ACode := (.region [⟨(some i4), none, .move (.t i10)⟩])
def bdyFL : ACode := (.block 1 (.region [⟨(some i11), none, .load none (.t i2)⟩, ⟨(some i12), none, .move (.t i4)⟩, ⟨(some i13), none, .buildSlice [(.int .i64 (.ofNat 0))] 1 [(0, 1, (.t i12))]⟩, ⟨(some i14), none, .append 1 (.t i11) (.t i13)⟩, ⟨none, none, .store none (.t i2) (.t i14)⟩]))

theorem fl_yield (n : Nat) (h : Heap) (l c0 d : Pos) (q t lo s vs v) (j : Nat) (hl : h.get l = some (.loop .ready q t [i9, i10] asgFL bdyFL d)) (ht : PT.get i2 t = some (.ptr c0 0)) (hc : h.get c0 = some (.cells [s] none)) (hs : App h lo s vs)
    (h1 : l.nat < lo) (h2 : c0.nat < l.nat) (h3 : lo ≤ h.next.nat) (hv : vs.length < 1000) :
    ∃ h' s', (fo (n + 1)).yield l [.int .i64 (.ofNat j), .int .i64 v] h = .ok (.bool true) h' ∧ h'.get l = some (.loop .ready .normal t [i9, i10] asgFL bdyFL d) ∧ h'.get c0 = some (.cells [s'] none) ∧ App h' lo s' (vs ++ [v])
      ∧ h.next.nat ≤ h'.next.nat ∧ ∀ p : Pos, p.nat < lo → p.nat ≠ l.nat → p.nat ≠ c0.nat → h'.get p = h.get p := by
  generalize hX : (fo (n + 1)).yield l [.int .i64 (.ofNat j), .int .i64 v] h = X
  rw [fo_yield] at hX
  simp only [asgFL, bdyFL] at hl ⊢
  rcases hs with ⟨rfl, rfl⟩ | ⟨p, p1, p2, rfl, hp⟩
  · simp (disch := first | ((try simp only [Pos.nat_succ, next_new, next_upd, next_del, ints_length, List.length_map, List.length_set, List.length_append, List.length_cons, List.length_nil]) <;> omega) | fail) only [ev0, ev1, ev2, ev3, ev4, ev5, ev6, ev7, ev8, ev9, Nat.reduceAdd, Nat.reduceMul, Nat.reduceSub, hl, hc, ht] at hX
    subst hX
    refine ⟨_, _, rfl, ?_, ?_, Or.inr ⟨h.next.succ, ?_, ?_, rfl, ?_⟩, ?_, ?_⟩
    · simp (disch := first | ((try simp only [Pos.nat_succ, next_new, next_upd, next_del, ints_length, List.length_map, List.length_set, List.length_append, List.length_cons, List.length_nil]) <;> omega) | fail) only [ev0, ev1, ev2, ev3, ev4, ev5, ev6, ev7, ev8, ev9, Nat.reduceAdd, Nat.reduceMul, Nat.reduceSub]
    · simp (disch := first | ((try simp only [Pos.nat_succ, next_new, next_upd, next_del, ints_length, List.length_map, List.length_set, List.length_append, List.length_cons, List.length_nil]) <;> omega) | fail) only [ev0, ev1, ev2, ev3, ev4, ev5, ev6, ev7, ev8, ev9, Nat.reduceAdd, Nat.reduceMul, Nat.reduceSub]; rfl
    · rw [Pos.nat_succ]; omega
    · simp only [next_upd, next_new, Pos.nat_succ]; omega
    · simp (disch := first | ((try simp only [Pos.nat_succ, next_new, next_upd, next_del, ints_length, List.length_map, List.length_set, List.length_append, List.length_cons, List.length_nil]) <;> omega) | fail) only [ev0, ev1, ev2, ev3, ev4, ev5, ev6, ev7, ev8, ev9, Nat.reduceAdd, Nat.reduceMul, Nat.reduceSub]; rfl
    · simp only [next_upd, next_new, Pos.nat_succ]; omega
    · intro p hp1 hp2 hp3
      simp (disch := first | ((try simp only [Pos.nat_succ, next_new, next_upd, next_del, ints_length, List.length_map, List.length_set, List.length_append, List.length_cons, List.length_nil]) <;> omega) | fail) only [ev0, ev1, ev2, ev3, ev4, ev5, ev6, ev7, ev8, ev9, Nat.reduceAdd, Nat.reduceMul, Nat.reduceSub]
  · simp (disch := first | ((try simp only [Pos.nat_succ, next_new, next_upd, next_del, ints_length, List.length_map, List.length_set, List.length_append, List.length_cons, List.length_nil]) <;> omega) | fail) only [ev0, ev1, ev2, ev3, ev4, ev5, ev6, ev7, ev8, ev9, Nat.reduceAdd, Nat.reduceMul, Nat.reduceSub, hl, hc, ht, hp, len_ints0, ints_app] at hX
    subst hX
    refine ⟨_, .slice h.next.succ 0 (vs.length + 1) (.o 1), rfl, ?_, ?_, Or.inr ⟨h.next.succ, ?_, ?_, ?_, ?_⟩, ?_, ?_⟩
    · simp (disch := first | ((try simp only [Pos.nat_succ, next_new, next_upd, next_del, ints_length, List.length_map, List.length_set, List.length_append, List.length_cons, List.length_nil]) <;> omega) | fail) only [ev0, ev1, ev2, ev3, ev4, ev5, ev6, ev7, ev8, ev9, Nat.reduceAdd, Nat.reduceMul, Nat.reduceSub]
    · simp (disch := first | ((try simp only [Pos.nat_succ, next_new, next_upd, next_del, ints_length, List.length_map, List.length_set, List.length_append, List.length_cons, List.length_nil]) <;> omega) | fail) only [ev0, ev1, ev2, ev3, ev4, ev5, ev6, ev7, ev8, ev9, Nat.reduceAdd, Nat.reduceMul, Nat.reduceSub]
    · rw [Pos.nat_succ]; omega
    · simp only [next_upd, next_new, next_del, Pos.nat_succ]; omega
    · simp only [List.length_append, List.length_cons, List.length_nil]
    · simp (disch := first | ((try simp only [Pos.nat_succ, next_new, next_upd, next_del, ints_length, List.length_map, List.length_set, List.length_append, List.length_cons, List.length_nil]) <;> omega) | fail) only [ev0, ev1, ev2, ev3, ev4, ev5, ev6, ev7, ev8, ev9, Nat.reduceAdd, Nat.reduceMul, Nat.reduceSub]; rw [ints_app]; rfl
    · simp only [next_upd, next_new, next_del, Pos.nat_succ]; omega
    · intro p hp1 hp2 hp3
      simp (disch := first | ((try simp only [Pos.nat_succ, next_new, next_upd, next_del, ints_length, List.length_map, List.length_set, List.length_append, List.length_cons, List.length_nil]) <;> omega) | fail) only [ev0, ev1, ev2, ev3, ev4, ev5, ev6, ev7, ev8, ev9, Nat.reduceAdd, Nat.reduceMul, Nat.reduceSub]

structure FLP (h0 : Heap) (N : Nat) (b c0 d l : Pos) (vs : List Int) (fr k : Nat) (t : PT AV) (j : Nat) (h : Heap) : Prop where
  hb : h.get b = some (fifoO vs fr k)
  hl : h.get l = some (.loop .ready .normal t [i9, i10] asgFL bdyFL d)
  hd : h.get d = some .deferred
  hs : ∃ s, h.get c0 = some (.cells [s] none) ∧ App h (N + 3) s (rot vs 32 fr j)
  hN : N + 3 ≤ h.next.nat
  hf : ∀ q : Pos, q.nat < N → h.get q = h0.get q

theorem App.keep {h h' : Heap} {lo lo' : Nat} {s : AV} {vs : List Int} (H : App h lo s vs) (hlo : lo' ≤ lo) (hn : h.next.nat ≤ h'.next.nat) (hk : ∀ p : Pos, lo ≤ p.nat → p.nat < h.next.nat → h'.get p = h.get p) : App h' lo' s vs := by
  rcases H with ⟨rfl, hv⟩ | ⟨p, p1, p2, rfl, hp⟩
  · exact Or.inl ⟨rfl, hv⟩
  · exact Or.inr ⟨p, by omega, by omega, rfl, (hk p p1 p2).trans hp⟩

theorem fifo_list (n : Nat) (h : Heap) (b : Pos) (vs : List Int) (fr k : Nat) (hl8 : vs.length = 32) (hf : fr < 32) (hk : k < 90) (nb : b.nat < h.next.nat) (hb : h.get b = some (fifoO vs fr k)) :
    ∃ s h', (fo (n + k + 4)).call i23 [.ptr b 0] h = .ok s h' ∧ App h' h.next.nat s (rot vs 32 fr k) ∧ Keep h h' := by
  have at1 : PT.get i23 tbl = some af23 := rfl
  generalize hX : (fo (n + k + 4)).call i23 [.ptr b 0] h = X
  have key := fun t (t2 : PT.get i2 t = some (.ptr h.next 0)) =>
    fifo_each b h.next.succ.succ vs fr k hl8 hf hk (FLP h h.next.nat b h.next h.next.succ h.next.succ.succ vs fr k t) (fun _ _ => False)
    (fun j h1 H => H.hb)
    (fun m j h1 hj H => by
      obtain ⟨q1, q2, q3, ⟨s, q4, q5⟩, q6, q7⟩ := H
      obtain ⟨h2, s1, ey, r1, r2, r3, r4, r5⟩ := fl_yield m h1 _ h.next _ .normal t (h.next.nat + 3) s _ (vs.getD ((fr + j) % 32) 0) j q2 t2 q4 q5 (by simp only [Pos.nat_succ]; omega) (by simp only [Pos.nat_succ]; omega) q6 (by rw [rot_length]; omega)
      refine ⟨h2, .inl ⟨ey, ?_⟩⟩
      constructor
      · exact (r5 _ (by omega) (by simp only [Pos.nat_succ]; omega) (by omega)).trans q1
      · exact r1
      · exact (r5 _ (by simp only [Pos.nat_succ]; omega) (by simp only [Pos.nat_succ]; omega) (by simp only [Pos.nat_succ]; omega)).trans q3
      · exact ⟨s1, r2, by rw [rot_succ]; exact r3⟩
      · omega
      · intro p hp
        exact (r5 _ (by omega) (by simp only [Pos.nat_succ]; omega) (by omega)).trans (q7 p hp))
    n (((h.new (.cells [.nilslice] none)).new .deferred).new (.loop .ready .normal t [i9, i10] asgFL bdyFL h.next.succ))
    (by
      constructor
      · simp (disch := first | ((try simp only [Pos.nat_succ, next_new, next_upd, next_del, ints_length, List.length_map, List.length_set, List.length_append, List.length_cons, List.length_nil]) <;> omega) | fail) only [ev0, ev1, ev2, ev3, ev4, ev5, ev6, ev7, ev8, ev9, Nat.reduceAdd, Nat.reduceMul, Nat.reduceSub, hb]
      · simp (disch := first | ((try simp only [Pos.nat_succ, next_new, next_upd, next_del, ints_length, List.length_map, List.length_set, List.length_append, List.length_cons, List.length_nil]) <;> omega) | fail) only [ev0, ev1, ev2, ev3, ev4, ev5, ev6, ev7, ev8, ev9, Nat.reduceAdd, Nat.reduceMul, Nat.reduceSub]
      · simp (disch := first | ((try simp only [Pos.nat_succ, next_new, next_upd, next_del, ints_length, List.length_map, List.length_set, List.length_append, List.length_cons, List.length_nil]) <;> omega) | fail) only [ev0, ev1, ev2, ev3, ev4, ev5, ev6, ev7, ev8, ev9, Nat.reduceAdd, Nat.reduceMul, Nat.reduceSub]
      · exact ⟨.nilslice, by simp (disch := first | ((try simp only [Pos.nat_succ, next_new, next_upd, next_del, ints_length, List.length_map, List.length_set, List.length_append, List.length_cons, List.length_nil]) <;> omega) | fail) only [ev0, ev1, ev2, ev3, ev4, ev5, ev6, ev7, ev8, ev9, Nat.reduceAdd, Nat.reduceMul, Nat.reduceSub], Or.inl ⟨rfl, rfl⟩⟩
      · simp only [next_new, Pos.nat_succ]; omega
      · intro q hq; simp (disch := first | ((try simp only [Pos.nat_succ, next_new, next_upd, next_del, ints_length, List.length_map, List.length_set, List.length_append, List.length_cons, List.length_nil]) <;> omega) | fail) only [ev0, ev1, ev2, ev3, ev4, ev5, ev6, ev7, ev8, ev9, Nat.reduceAdd, Nat.reduceMul, Nat.reduceSub])
  rw [fo_call (f := i23) rfl] at hX
  simp only [asgFL, bdyFL] at key
  simp (disch := first | ((try simp only [Pos.nat_succ, next_new, next_upd, next_del, ints_length, List.length_map, List.length_set, List.length_append, List.length_cons, List.length_nil]) <;> omega) | fail) only [ev0, ev1, ev2, ev3, ev4, ev5, ev6, ev7, ev8, ev9, Nat.reduceAdd, Nat.reduceMul, Nat.reduceSub, at1, af23] at hX
  generalize hE : (fo (n + k + 3)).call _ _ _ = Z at hX
  obtain ⟨t, h1, rfl, hz⟩ : ∃ t h1, Z = .ok (.tup []) h1 ∧ (FLP h h.next.nat b h.next h.next.succ h.next.succ.succ vs fr k t k h1 ∨ ∃ i, i < k ∧ False) := by
    rw [← hE]
    exact ⟨_, key _ (by simp only [get_H, get_O, get_I])⟩
  rcases hz with ⟨q1, q2, q3, ⟨s, q4, q5⟩, q6, q7⟩ | ⟨i, hi, hfalse⟩
  · simp (disch := first | ((try simp only [Pos.nat_succ, next_new, next_upd, next_del, ints_length, List.length_map, List.length_set, List.length_append, List.length_cons, List.length_nil]) <;> omega) | fail) only [ev0, ev1, ev2, ev3, ev4, ev5, ev6, ev7, ev8, ev9, Nat.reduceAdd, Nat.reduceMul, Nat.reduceSub, q2, q3, q4] at hX
    have hcell : s.isCell = true := by rcases q5 with ⟨rfl, _⟩ | ⟨p, _, _, rfl, _⟩ <;> rfl
    have hcells : s.cells = [s] := by rcases q5 with ⟨rfl, _⟩ | ⟨p, _, _, rfl, _⟩ <;> rfl
    simp (disch := first | ((try simp only [Pos.nat_succ, next_new, next_upd, next_del, ints_length, List.length_map, List.length_set, List.length_append, List.length_cons, List.length_nil]) <;> omega) | fail) only [ev0, ev1, ev2, ev3, ev4, ev5, ev6, ev7, ev8, ev9, Nat.reduceAdd, Nat.reduceMul, Nat.reduceSub, q2, q3, q4, hcell, hcells] at hX
    subst hX
    refine ⟨_, _, rfl, q5.keep (by omega) ?_ ?_, ?_, ?_⟩
    · simp only [next_upd, next_del]; omega
    · intro p hp1 hp2
      simp (disch := first | ((try simp only [Pos.nat_succ, next_new, next_upd, next_del, ints_length, List.length_map, List.length_set, List.length_append, List.length_cons, List.length_nil]) <;> omega) | fail) only [ev0, ev1, ev2, ev3, ev4, ev5, ev6, ev7, ev8, ev9, Nat.reduceAdd, Nat.reduceMul, Nat.reduceSub]
    · simp only [next_upd, next_del]; omega
    · intro q hq
      simp (disch := first | ((try simp only [Pos.nat_succ, next_new, next_upd, next_del, ints_length, List.length_map, List.length_set, List.length_append, List.length_cons, List.length_nil]) <;> omega) | fail) only [ev0, ev1, ev2, ev3, ev4, ev5, ev6, ev7, ev8, ev9, Nat.reduceAdd, Nat.reduceMul, Nat.reduceSub, q7]
  · exact hfalse.elim
end Go.Am

