/- An abstract machine for Go code and its soundness over the model; no condition of its own. Used by the proof that the law TopScheduled returns true at every input. -/
import Derived.Test.YtofefignkpmlbaaGreatAm1
import Derived.AtR
import Derived.Laws.Sem
import Derived.Laws.Cells
import Derived.Laws.CopyRow
import Derived.Laws.Entries
namespace Go.Am

theorem Pos.nat_pos : ∀ p : Pos, 0 < p.nat
  | .H => by simp [Pos.nat]
  | .O p => by have := p.nat_pos; simp [Pos.nat]; omega
  | .I p => by simp [Pos.nat]

theorem Pos.nat_inj : ∀ {p q : Pos}, p.nat = q.nat → p = q
  | .H, .H, _ => rfl
  | .H, .O q, h => by have := q.nat_pos; simp [Pos.nat] at h; omega
  | .H, .I q, h => by have := q.nat_pos; simp [Pos.nat] at h; omega
  | .O p, .H, h => by have := p.nat_pos; simp [Pos.nat] at h; omega
  | .I p, .H, h => by have := p.nat_pos; simp [Pos.nat] at h; omega
  | .O p, .O q, h => by rw [Pos.nat_inj (p := p) (q := q) (by simp [Pos.nat] at h; omega)]
  | .I p, .I q, h => by rw [Pos.nat_inj (p := p) (q := q) (by simp [Pos.nat] at h; omega)]
  | .O p, .I q, h => by simp [Pos.nat] at h; omega
  | .I p, .O q, h => by simp [Pos.nat] at h; omega

theorem Pos.nat_succ : ∀ p : Pos, p.succ.nat = p.nat + 1
  | .H => rfl
  | .O p => rfl
  | .I p => by simp [Pos.succ, Pos.nat, p.nat_succ]; omega

theorem Pos.idx_inj {p q : Pos} (h : p.idx = q.idx) : p = q := by
  apply Pos.nat_inj
  have := p.nat_pos
  have := q.nat_pos
  unfold Pos.idx at h
  omega

theorem Pos.nat_ofNatF : ∀ (k n : Nat), 1 ≤ n → n < 2 ^ (k + 1) → (Pos.ofNatF k n).nat = n
  | 0, n, h1, h2 => by simp [Pos.ofNatF, Pos.nat]; omega
  | k + 1, n, h1, h2 => by
    have h3 : n / 2 < 2 ^ (k + 1) := by rw [Nat.pow_succ] at h2; omega
    unfold Pos.ofNatF
    split
    · simp [Pos.nat]; omega
    · split
      · simp [Pos.nat, Pos.nat_ofNatF k (n / 2) (by omega) h3]; omega
      · simp [Pos.nat, Pos.nat_ofNatF k (n / 2) (by omega) h3]; omega

theorem Pos.idx_ofIdx {n : Nat} (h : n < 16777216) : (Pos.ofIdx n).idx = n := by
  unfold Pos.idx Pos.ofIdx
  rw [Pos.nat_ofNatF 24 (n + 1) (by omega) (by omega)]
  omega

theorem Pos.beq_eq : ∀ {p q : Pos}, p.beq q = true → p = q
  | .H, .H, _ => rfl
  | .O p, .O q, h => by rw [Pos.beq_eq (p := p) (q := q) h]
  | .I p, .I q, h => by rw [Pos.beq_eq (p := p) (q := q) h]
  | .H, .O _, h => by simp [Pos.beq] at h
  | .H, .I _, h => by simp [Pos.beq] at h
  | .O _, .H, h => by simp [Pos.beq] at h
  | .O _, .I _, h => by simp [Pos.beq] at h
  | .I _, .H, h => by simp [Pos.beq] at h
  | .I _, .O _, h => by simp [Pos.beq] at h

section
variable {α : Type}

@[simp] theorem PT.get_E (p : Pos) : PT.get p (.E : PT α) = none := by cases p <;> rfl

theorem PT.get_set_same : ∀ (p : Pos) (v : α) (t : PT α), PT.get p (PT.set p v t) = some v
  | .H, v, .E => rfl
  | .H, v, .N _ _ _ => rfl
  | .O p, v, .E => by simp [PT.set, PT.get, PT.get_set_same p v .E]
  | .O p, v, .N l o r => by simp [PT.set, PT.get, PT.get_set_same p v l]
  | .I p, v, .E => by simp [PT.set, PT.get, PT.get_set_same p v .E]
  | .I p, v, .N l o r => by simp [PT.set, PT.get, PT.get_set_same p v r]

theorem PT.get_set_ne : ∀ {p q : Pos} (v : α) (t : PT α), p ≠ q → PT.get q (PT.set p v t) = PT.get q t
  | .H, .H, _, _, h => absurd rfl h
  | .H, .O q, v, .E, _ => by simp [PT.set, PT.get]
  | .H, .O q, v, .N _ _ _, _ => rfl
  | .H, .I q, v, .E, _ => by simp [PT.set, PT.get]
  | .H, .I q, v, .N _ _ _, _ => rfl
  | .O p, .H, v, .E, _ => rfl
  | .O p, .H, v, .N _ _ _, _ => rfl
  | .O p, .O q, v, .E, h => by
    have := PT.get_set_ne (p := p) (q := q) v .E (fun e => h (by rw [e]))
    simp [PT.set, PT.get, this]
  | .O p, .O q, v, .N l _ _, h => by
    have := PT.get_set_ne (p := p) (q := q) v l (fun e => h (by rw [e]))
    simp [PT.set, PT.get, this]
  | .O p, .I q, v, .E, _ => by simp [PT.set, PT.get]
  | .O p, .I q, v, .N _ _ _, _ => rfl
  | .I p, .H, v, .E, _ => rfl
  | .I p, .H, v, .N _ _ _, _ => rfl
  | .I p, .O q, v, .E, _ => by simp [PT.set, PT.get]
  | .I p, .O q, v, .N _ _ _, _ => rfl
  | .I p, .I q, v, .E, h => by
    have := PT.get_set_ne (p := p) (q := q) v .E (fun e => h (by rw [e]))
    simp [PT.set, PT.get, this]
  | .I p, .I q, v, .N _ _ r, h => by
    have := PT.get_set_ne (p := p) (q := q) v r (fun e => h (by rw [e]))
    simp [PT.set, PT.get, this]

theorem PT.get_set (p q : Pos) (v : α) (t : PT α) : PT.get q (PT.set p v t) = if p = q then some v else PT.get q t := by
  by_cases h : p = q
  · subst h; simp [PT.get_set_same]
  · simp [h, PT.get_set_ne v t h]

theorem PT.get_rem_same : ∀ (p : Pos) (t : PT α), PT.get p (PT.rem p t) = none
  | .H, .E => rfl
  | .H, .N _ _ _ => rfl
  | .O p, .E => rfl
  | .O p, .N l o r => by simp [PT.rem, PT.get, PT.get_rem_same p l]
  | .I p, .E => rfl
  | .I p, .N l o r => by simp [PT.rem, PT.get, PT.get_rem_same p r]

theorem PT.get_rem_ne : ∀ {p q : Pos} (t : PT α), p ≠ q → PT.get q (PT.rem p t) = PT.get q t
  | .H, .H, _, h => absurd rfl h
  | _, _, .E, _ => by simp [PT.rem]
  | .H, .O q, .N _ _ _, _ => rfl
  | .H, .I q, .N _ _ _, _ => rfl
  | .O p, .H, .N _ _ _, _ => rfl
  | .O p, .O q, .N l _ _, h => by
    have := PT.get_rem_ne (p := p) (q := q) l (fun e => h (by rw [e]))
    simp [PT.rem, PT.get, this]
  | .O p, .I q, .N _ _ _, _ => rfl
  | .I p, .H, .N _ _ _, _ => rfl
  | .I p, .O q, .N _ _ _, _ => rfl
  | .I p, .I q, .N _ _ r, h => by
    have := PT.get_rem_ne (p := p) (q := q) r (fun e => h (by rw [e]))
    simp [PT.rem, PT.get, this]

theorem PT.get_rem (p q : Pos) (t : PT α) : PT.get q (PT.rem p t) = if p = q then none else PT.get q t := by
  by_cases h : p = q
  · subst h; simp [PT.get_rem_same]
  · simp [h, PT.get_rem_ne t h]
end

/-- Where a block of the abstract memory lies: the block, the cell where it begins, how many cells there are from there on. -/
structure Loc where
  block : Nat
  base : Nat
  lim : Nat

abbrev Map := Pos → Option Loc

def Loc.at (l : Loc) (off : Nat) : Addr := ⟨l.block, l.base + off, none⟩

/-- A slice without a known capacity. -/
def openSlice (l : Loc) (off len esz : Nat) (v : Value) : Prop :=
  ∃ a c, v = .slice (some a) len c ∧ len ≤ c ∧ (0 < c → a = l.at off ∧ off + c * esz ≤ l.lim)

/-- A slice of a known capacity. -/
def knownSlice (l : Loc) (off len c : Nat) (v : Value) : Prop :=
  ∃ a, v = .slice (some a) len c ∧ len ≤ c ∧ (0 < c → a = l.at off)

mutual
/-- What a value is in the program's memory. -/
def VR (ρ : Map) : AV → Value → Prop
  | .undef, _ => True
  | .bool b, v => v = .bool b
  | .int k n, v => v = .int k n
  | .str s, v => ∃ bs : ByteArray, v = .string bs ∧ s = bs.data.toList.map UInt8.toNat
  | .strz n, v => ∃ bs : ByteArray, v = .string bs ∧ bs.data.toList = List.replicate n 0
  | .nilptr, v => v = .pointer none
  | .ptr b off, v => ∃ l, ρ b = some l ∧ v = .pointer (some (l.at off))
  | .nilslice, v => v = .slice none 0 0
  | .slice b off len (.c c), v => ∃ l, ρ b = some l ∧ knownSlice l off len c v
  | .slice b off len (.o esz), v => ∃ l, ρ b = some l ∧ openSlice l off len esz v
  | .nilmap, v => v = .map none
  | .map b, v => ∃ l, ρ b = some l ∧ v = .map (some l.block)
  | .nilfn, v => v = .nilFunc
  | .fn f a c, v => ∃ a' c' : List Value, v = .func (.func f.idx) a'.toArray c'.toArray ∧ VRs ρ a a' ∧ VRs ρ c c'
  | .yield b, v => ∃ l, ρ b = some l ∧ v = .func (.yield l.block) #[] #[]
  | .niliface, v => v = .nilIface
  | .iface t x, v => ∃ y, v = .iface t y ∧ VR ρ x y
  | .agg cs, v => ∃ l : List Value, v = .agg l.toArray ∧ VRs ρ cs l
  | .tup vs, v => ∃ l : List Value, v = .tuple l.toArray ∧ VRs ρ vs l
def VRs (ρ : Map) : List AV → List Value → Prop
  | [], l => l = []
  | a :: as, l => ∃ v vs, l = v :: vs ∧ VR ρ a v ∧ VRs ρ as vs
end

def Ext (ρ ρ' : Map) : Prop := ∀ b l, ρ b = some l → ρ' b = some l

theorem Ext.refl (ρ : Map) : Ext ρ ρ := fun _ _ h => h
theorem Ext.trans {ρ ρ' ρ'' : Map} (h : Ext ρ ρ') (h' : Ext ρ' ρ'') : Ext ρ ρ'' := fun b l e => h' b l (h b l e)

mutual
theorem VR.mono {ρ ρ' : Map} (h : Ext ρ ρ') : ∀ (a : AV) (v : Value), VR ρ a v → VR ρ' a v
  | .undef, _, _ => by simp [VR]
  | .bool b, v, hv => by simpa [VR] using hv
  | .int k n, v, hv => by simpa [VR] using hv
  | .str s, v, hv => by simpa [VR] using hv
  | .strz n, v, hv => by simpa [VR] using hv
  | .nilptr, v, hv => by simpa [VR] using hv
  | .ptr b off, v, hv => by
    simp only [VR] at hv ⊢
    obtain ⟨l, hl, e⟩ := hv
    exact ⟨l, h _ _ hl, e⟩
  | .nilslice, v, hv => by simpa [VR] using hv
  | .slice b off len (.c c), v, hv => by
    simp only [VR] at hv ⊢
    obtain ⟨l, hl, e⟩ := hv
    exact ⟨l, h _ _ hl, e⟩
  | .slice b off len (.o esz), v, hv => by
    simp only [VR] at hv ⊢
    obtain ⟨l, hl, e⟩ := hv
    exact ⟨l, h _ _ hl, e⟩
  | .nilmap, v, hv => by simpa [VR] using hv
  | .map b, v, hv => by
    simp only [VR] at hv ⊢
    obtain ⟨l, hl, e⟩ := hv
    exact ⟨l, h _ _ hl, e⟩
  | .nilfn, v, hv => by simpa [VR] using hv
  | .fn f a c, v, hv => by
    simp only [VR] at hv ⊢
    obtain ⟨a', c', e, h1, h2⟩ := hv
    exact ⟨a', c', e, VRs.mono h a a' h1, VRs.mono h c c' h2⟩
  | .yield b, v, hv => by
    simp only [VR] at hv ⊢
    obtain ⟨l, hl, e⟩ := hv
    exact ⟨l, h _ _ hl, e⟩
  | .niliface, v, hv => by simpa [VR] using hv
  | .iface t x, v, hv => by
    simp only [VR] at hv ⊢
    obtain ⟨y, e, h1⟩ := hv
    exact ⟨y, e, VR.mono h x y h1⟩
  | .agg cs, v, hv => by
    simp only [VR] at hv ⊢
    obtain ⟨l, e, h1⟩ := hv
    exact ⟨l, e, VRs.mono h cs l h1⟩
  | .tup vs, v, hv => by
    simp only [VR] at hv ⊢
    obtain ⟨l, e, h1⟩ := hv
    exact ⟨l, e, VRs.mono h vs l h1⟩
theorem VRs.mono {ρ ρ' : Map} (h : Ext ρ ρ') : ∀ (a : List AV) (v : List Value), VRs ρ a v → VRs ρ' a v
  | [], v, hv => by simpa [VRs] using hv
  | a :: as, v, hv => by
    simp only [VRs] at hv ⊢
    obtain ⟨x, xs, e, h1, h2⟩ := hv
    exact ⟨x, xs, e, VR.mono h a x h1, VRs.mono h as xs h2⟩
end

theorem VRs.length {ρ : Map} : ∀ {a : List AV} {v : List Value}, VRs ρ a v → v.length = a.length
  | [], v, h => by simp [VRs] at h; simp [h]
  | a :: as, v, h => by
    simp only [VRs] at h
    obtain ⟨x, xs, rfl, _, h2⟩ := h
    simp [VRs.length h2]

theorem VRs.nil {ρ : Map} : VRs ρ [] [] := by simp [VRs]
theorem VRs.cons {ρ : Map} {a : AV} {as : List AV} {v : Value} {vs : List Value} (h : VR ρ a v) (hs : VRs ρ as vs) : VRs ρ (a :: as) (v :: vs) := by
  simp only [VRs]; exact ⟨v, vs, rfl, h, hs⟩

theorem VRs.append {ρ : Map} : ∀ {a b : List AV} {v u : List Value}, VRs ρ a v → VRs ρ b u → VRs ρ (a ++ b) (v ++ u)
  | [], b, v, u, h, h' => by simp [VRs] at h; subst h; simpa using h'
  | a :: as, b, v, u, h, h' => by
    simp only [VRs] at h
    obtain ⟨x, xs, rfl, h1, h2⟩ := h
    exact VRs.cons h1 (VRs.append h2 h')

theorem VRs.get {ρ : Map} : ∀ {a : List AV} {v : List Value}, VRs ρ a v → ∀ {i : Nat} {x : AV}, nth a i = some x → ∃ y, v[i]? = some y ∧ VR ρ x y
  | [], v, h, i, x, e => by simp [nth] at e
  | a :: as, v, h, i, x, e => by
    simp only [VRs] at h
    obtain ⟨z, zs, rfl, h1, h2⟩ := h
    cases i with
    | zero => simp only [nth, Option.some.injEq] at e; subst e; exact ⟨z, rfl, h1⟩
    | succ i => simp only [nth] at e; simpa using VRs.get h2 e

/-- A value of one cell. -/
theorem VR.oneCell {ρ : Map} {a : AV} {v : Value} (h : VR ρ a v) (hc : a.isCell = true) : v.oneCell' = true := by
  cases a <;> simp only [AV.isCell, VR, Bool.false_eq_true] at h hc
  case slice b off len cap =>
    cases cap <;> simp only [VR] at h
    · obtain ⟨l, _, a, c, rfl, _⟩ := h; rfl
    · obtain ⟨l, _, a, rfl, _⟩ := h; rfl
  all_goals first
    | (subst h; rfl)
    | (obtain ⟨_, rfl, _⟩ := h; rfl)
    | (obtain ⟨_, _, rfl⟩ := h; rfl)
    | (obtain ⟨_, _, rfl, _⟩ := h; rfl)

theorem cells_of_one {v : Value} (h : v.oneCell' = true) : v.cells = #[v] := by
  cases v <;> first | rfl | (simp [Value.oneCell'] at h)

theorem VR.cells {ρ : Map} {a : AV} {v : Value} (h : VR ρ a v) (hu : a ≠ .undef) : VRs ρ a.cells v.cells.toList := by
  have key : v.cells = #[v] → VRs ρ [a] v.cells.toList := fun e => by rw [e]; exact VRs.cons h VRs.nil
  cases a with
  | undef => exact absurd rfl hu
  | agg cs =>
    simp only [VR] at h
    obtain ⟨l, rfl, h1⟩ := h
    simpa [AV.cells, Value.cells] using h1
  | tup vs =>
    refine key ?_
    simp only [VR] at h
    obtain ⟨l, rfl, h1⟩ := h
    rfl
  | _ =>
    exact key (cells_of_one (VR.oneCell h rfl))

end Go.Am

namespace Go.Am

/-- The program, what is known of its types, the function that is a library's own. -/
structure Cx where
  P : Program
  ty : TypeId → Option TI
  ib : Nat

/-- The temporaries of a frame. -/
def ER (ρ : Map) (tm : PT AV) (tmps : Array Value) : Prop := ∀ p : Pos, VR ρ ((PT.get p tm).getD .undef) (tmps.getD p.idx undef)

/-- The entries of a map, one by one. -/
def EntR (ρ : Map) : List (AV × AV) → List MapEntry → Prop
  | [], l => l = []
  | (k, v) :: es, l => ∃ e l', l = e :: l' ∧ VR ρ k e.key ∧ VR ρ v e.val ∧ EntR ρ es l'

/-- The keys are all different ones. -/
def Apart (q : EqK) : List (AV × AV) → Prop
  | [] => True
  | (k, _) :: es => (∀ x ∈ es, same q k x.1 = some false) ∧ Apart q es

def pendingOf : AExit → Option Code
  | .normal => none
  | .exit id => some (.exit id)
  | .ret => some .ret

/-- No writing is barred there. -/
def Free (z : Nat × Nat) (k : Nat) : Prop := (decide (z.1 ≤ k) && decide (k < z.2)) = false
theorem free0 (k : Nat) : Free (0, 0) k := by simp [Free]
/-- A block of cells; where so many of them begin, they may be written; a row that grows may be written wherever. -/
def RowAt (w : World) (l : Loc) (c : Array Value) (e : TypeId) (n : Nat) (sp : Option Nat) : Prop :=
  ∃ z, w.heap[l.block]? = some (.cells c e z) ∧ (sp ≠ none → z = (0, 0)) ∧ ∀ i, i < n → Free z (l.base + i)
theorem RowAt.of {w : World} {l : Loc} {c : Array Value} {e : TypeId} {n : Nat} {sp : Option Nat} (h : w.heap[l.block]? = some (.cells c e (0, 0))) : RowAt w l c e n sp :=
  ⟨(0, 0), h, fun _ => rfl, fun _ _ => free0 _⟩
theorem RowAt.congr {w w' : World} {l : Loc} {c : Array Value} {e : TypeId} {n : Nat} {sp : Option Nat} (hw : w'.heap[l.block]? = w.heap[l.block]?) (h : RowAt w l c e n sp) : RowAt w' l c e n sp := by
  obtain ⟨z, h1, h2, h3⟩ := h
  exact ⟨z, hw.trans h1, h2, h3⟩

/-- What a block of the abstract memory is in the program's. -/
def ObjR (C : Cx) (ρ : Map) (w : World) (l : Loc) : AObj → Prop
  | .cells cs sp => ∃ c e, RowAt w l c e cs.length sp ∧ (∀ i a, nth cs i = some a → ∃ v, c[l.base + i]? = some v ∧ VR ρ a v) ∧
      (∀ k, sp = some k → l.base + l.lim ≤ c.size)
  | .rep n a => ∃ c e, w.heap[l.block]? = some (.cells c e (0, 0)) ∧ ∀ i, i < n → ∃ v, c[l.base + i]? = some v ∧ VR ρ a v
  | .map q es => ∃ es' clock L, w.heap[l.block]? = some (.map es' clock) ∧ L.Perm es'.toList ∧ EntR ρ es L ∧ Apart q es
  | .loop st pend tmps params assign body d => ∃ lp ld nt, w.heap[l.block]? = some (.loop lp) ∧ lp.state = st ∧ lp.pending = pendingOf pend ∧ ER ρ tmps lp.tmps ∧
      lp.params.toList.mapM (trTmp nt) = some params ∧ trCode C.ty C.ib nt lp.assign = some assign ∧ trCode C.ty C.ib nt lp.body = some body ∧ nt ≤ lp.tmps.size ∧
      ρ d = some ld ∧ lp.defers = ld.block
  | .deferred => w.heap[l.block]? = some (.deferred (some []))

/-- What is known of memory that the abstract one does not hold: a block; or a block of cells but for a part of it. -/
inductive FObj where
  | ex (o : Obj)
  | part (lo hi : Nat) (c : Array Value) (e : TypeId) (z : Nat × Nat)

def FObj.Holds (w : World) (k : Nat) : FObj → Prop
  | .ex o => w.heap[k]? = some o
  | .part lo hi c e z => ∃ c', w.heap[k]? = some (.cells c' e z) ∧ c'.size = c.size ∧ ∀ j, (j < lo ∨ hi ≤ j) → c'[j]? = c[j]?

/-- A block of the abstract memory is no such block, or within that part. -/
def FObj.Off (l : Loc) (k : Nat) (ob : AObj) : FObj → Prop
  | .ex _ => l.block ≠ k
  | .part lo hi _ _ _ => l.block = k → ∃ cs, ob = .cells cs none ∧ lo ≤ l.base ∧ l.base + cs.length ≤ hi

theorem FObj.Holds.congr {w w' : World} {k : Nat} (hw : w'.heap[k]? = w.heap[k]?) {x : FObj} (h : x.Holds w k) : x.Holds w' k := by
  cases x with
  | ex o => exact hw.trans h
  | part lo hi c e z => obtain ⟨c', h1, h2⟩ := h; exact ⟨c', hw.trans h1, h2⟩
theorem FObj.Holds.lt {w : World} {k : Nat} {x : FObj} (h : x.Holds w k) : k < w.heap.size := by
  cases x with
  | ex o => exact (Array.getElem?_eq_some_iff.1 h).1
  | part lo hi c e z => obtain ⟨c', h1, _⟩ := h; exact (Array.getElem?_eq_some_iff.1 h1).1
theorem FObj.Off.of_ne {l : Loc} {k : Nat} {ob : AObj} (h : l.block ≠ k) (x : FObj) : x.Off l k ob := by
  cases x with
  | ex o => exact h
  | part lo hi c e z => exact fun e => absurd e h
theorem FObj.Off.ne {l : Loc} {k : Nat} {ob : AObj} (hne : ∀ cs, ob ≠ .cells cs none) {x : FObj} (h : x.Off l k ob) : l.block ≠ k := by
  cases x with
  | ex o => exact h
  | part lo hi c e z =>
    intro e
    obtain ⟨cs, h1, _⟩ := h e
    exact hne cs h1

structure HR (C : Cx) (ρ : Map) (h : Heap) (F : Nat → Option FObj) (w : World) : Prop where
  live : ∀ b o, PT.get b h.t = some o → ∃ l, ρ b = some l ∧ ObjR C ρ w l o
  inj : ∀ b b' o o' l l', PT.get b h.t = some o → PT.get b' h.t = some o' → ρ b = some l → ρ b' = some l' → l.block = l'.block → b = b'
  frame : ∀ c x, F c = some x → x.Holds w c
  apart : ∀ c x b ob l, F c = some x → PT.get b h.t = some ob → ρ b = some l → x.Off l c ob
  below : ∀ b o, PT.get b h.t = some o → b.nat < h.next.nat

/-- Nothing lies yet at what is to be new. -/
def Fr (ρ : Map) (n n' : Pos) : Prop := ∀ b : Pos, n.nat ≤ b.nat → b.nat < n'.nat → ρ b = none

/-- Elsewhere all lies where it did. -/
def Out (ρ ρ' : Map) (n n' : Pos) : Prop := ∀ b : Pos, (b.nat < n.nat ∨ n'.nat ≤ b.nat) → ρ' b = ρ b

theorem Out.ext {ρ ρ' : Map} {n n' : Pos} (h : Out ρ ρ' n n') (hf : Fr ρ n n') : Ext ρ ρ' := by
  intro b l e
  by_cases h1 : b.nat < n.nat ∨ n'.nat ≤ b.nat
  · rw [h b h1]; exact e
  · rw [hf b (by omega) (by omega)] at e; cases e

theorem Out.refl (ρ : Map) (n n' : Pos) : Out ρ ρ n n' := fun _ _ => rfl
theorem Out.trans {ρ ρ' ρ'' : Map} {a b c : Pos} (h : Out ρ ρ' a b) (h' : Out ρ' ρ'' b c) (h1 : a.nat ≤ b.nat) (h2 : b.nat ≤ c.nat) : Out ρ ρ'' a c := by
  intro x hx
  rw [h' x (by omega), h x (by omega)]
theorem Fr.left {ρ : Map} {a b c : Pos} (h : Fr ρ a c) (h2 : b.nat ≤ c.nat) : Fr ρ a b := fun x h3 h4 => h x h3 (by omega)
theorem Fr.right {ρ ρ' : Map} {a b c : Pos} (h : Fr ρ a c) (ho : Out ρ ρ' a b) (h1 : a.nat ≤ b.nat) : Fr ρ' b c :=
  fun x h3 h4 => by rw [ho x (by omega)]; exact h x (by omega) h4

/-- The world beside memory is as it was. -/
structure Same (w w' : World) : Prop where
  tape : w'.tape = w.tape
  os : w'.os = w.os
  output : w'.output = w.output
  size : w.heap.size ≤ w'.heap.size

theorem Same.refl (w : World) : Same w w := ⟨rfl, rfl, rfl, Nat.le_refl _⟩
theorem Same.trans {a b c : World} (h : Same a b) (h' : Same b c) : Same a c :=
  ⟨h'.tape.trans h.tape, h'.os.trans h.os, h'.output.trans h.output, Nat.le_trans h.size h'.size⟩

theorem EntR.mono {ρ ρ' : Map} (h : Ext ρ ρ') : ∀ {es : List (AV × AV)} {l : List MapEntry}, EntR ρ es l → EntR ρ' es l
  | [], l, e => by simpa [EntR] using e
  | (k, v) :: es, l, e => by
    simp only [EntR] at e ⊢
    obtain ⟨x, l', rfl, h1, h2, h3⟩ := e
    exact ⟨x, l', rfl, VR.mono h _ _ h1, VR.mono h _ _ h2, EntR.mono h h3⟩

theorem ER.mono {ρ ρ' : Map} (h : Ext ρ ρ') {tm : PT AV} {tmps : Array Value} (e : ER ρ tm tmps) : ER ρ' tm tmps :=
  fun p => VR.mono h _ _ (e p)

theorem ObjR.mono {C : Cx} {ρ ρ' : Map} {w w' : World} {l : Loc} {o : AObj} (he : Ext ρ ρ') (hw : w'.heap[l.block]? = w.heap[l.block]?) (h : ObjR C ρ w l o) : ObjR C ρ' w' l o := by
  cases o with
  | cells cs sp =>
    obtain ⟨c, e, h1, h2, h3⟩ := h
    exact ⟨c, e, h1.congr hw, fun i a hi => let ⟨v, h4, h5⟩ := h2 i a hi; ⟨v, h4, VR.mono he _ _ h5⟩, h3⟩
  | rep n a =>
    obtain ⟨c, e, h1, h2⟩ := h
    exact ⟨c, e, by rw [hw]; exact h1, fun i hi => let ⟨v, h4, h5⟩ := h2 i hi; ⟨v, h4, VR.mono he _ _ h5⟩⟩
  | map q es =>
    obtain ⟨es', clock, L, h1, h2, h3, h4⟩ := h
    exact ⟨es', clock, L, by rw [hw]; exact h1, h2, h3.mono he, h4⟩
  | loop st pend tmps params assign body d =>
    obtain ⟨lp, ld, nt, h1, h2, h3, h4, h5, h6, h7, h8, h9, h10⟩ := h
    exact ⟨lp, ld, nt, by rw [hw]; exact h1, h2, h3, h4.mono he, h5, h6, h7, h8, he _ _ h9, h10⟩
  | deferred => simp only [ObjR] at h ⊢; rw [hw]; exact h

theorem HR.congr {C : Cx} {ρ : Map} {h : Heap} {F : Nat → Option FObj} {w w' : World} (hr : HR C ρ h F w) (hw : w'.heap = w.heap) : HR C ρ h F w' := by
  refine ⟨fun b o e => ?_, hr.inj, fun c o e => (hr.frame c o e).congr (by rw [hw]), hr.apart, hr.below⟩
  obtain ⟨l, h1, h2⟩ := hr.live b o e
  exact ⟨l, h1, h2.mono (Ext.refl _) (by rw [hw])⟩

theorem ObjR.there {C : Cx} {ρ : Map} {w : World} {l : Loc} {o : AObj} (h : ObjR C ρ w l o) : l.block < w.heap.size := by
  have key : ∀ {x : Obj}, w.heap[l.block]? = some x → l.block < w.heap.size := fun e => by
    rw [Array.getElem?_eq_some_iff] at e; exact e.1
  cases o with
  | cells cs sp => obtain ⟨c, e, ⟨z, h1, _⟩, _⟩ := h; exact key h1
  | rep n a => obtain ⟨c, e, h1, _⟩ := h; exact key h1
  | map es => obtain ⟨_, _, _, h1, _⟩ := h; exact key h1
  | loop => obtain ⟨_, _, _, h1, _⟩ := h; exact key h1
  | deferred => exact key h

def Map.upd (ρ : Map) (b : Pos) (l : Loc) : Map := fun x => if x = b then some l else ρ x

theorem Map.upd_same (ρ : Map) (b : Pos) (l : Loc) : ρ.upd b l b = some l := by simp [Map.upd]
theorem Map.upd_ne (ρ : Map) {b x : Pos} (l : Loc) (h : x ≠ b) : ρ.upd b l x = ρ x := by simp [Map.upd, h]
theorem Map.upd_ext {ρ : Map} {b : Pos} {l : Loc} (h : ρ b = none) : Ext ρ (ρ.upd b l) := by
  intro x k e
  by_cases hx : x = b
  · subst hx; rw [h] at e; cases e
  · rw [ρ.upd_ne l hx]; exact e
theorem Map.upd_out (ρ : Map) (b : Pos) (l : Loc) : Out ρ (ρ.upd b l) b b.succ := by
  intro x hx
  rw [ρ.upd_ne l]
  intro e
  subst e
  rw [Pos.nat_succ] at hx
  omega

/-- A new block. -/
theorem HR.alloc {C : Cx} {ρ : Map} {h : Heap} {F : Nat → Option FObj} {w : World} (hr : HR C ρ h F w) (hn : ρ h.next = none) (o : AObj) (x : Obj) (l : Loc)
    (hl : l.block = w.heap.size) (ho : ∀ ρ', Ext ρ ρ' → ObjR C ρ' { w with heap := w.heap.push x } l o) :
    HR C (ρ.upd h.next l) ⟨PT.set h.next o h.t, h.next.succ⟩ F { w with heap := w.heap.push x } := by
  have he := Map.upd_ext (l := l) hn
  have hpush : ∀ {c : Nat}, c < w.heap.size → (w.heap.push x)[c]? = w.heap[c]? := fun hc => by
    rw [Array.getElem?_push]; simp [Nat.ne_of_lt hc]
  have hnew : ∀ b k, (ρ.upd h.next l) b = some k → b ≠ h.next → ρ b = some k := fun b k e hb => by rwa [ρ.upd_ne l hb] at e
  refine ⟨?_, ?_, ?_, ?_, ?_⟩
  · intro b ob e
    simp only [PT.get_set] at e
    split at e
    · rename_i hb
      subst hb
      cases e
      exact ⟨l, ρ.upd_same _ l, ho _ he⟩
    · obtain ⟨k, h1, h2⟩ := hr.live b ob e
      exact ⟨k, he _ _ h1, h2.mono he (hpush h2.there)⟩
  · intro b b' ob ob' k k' e e' hk hk' hb
    simp only [PT.get_set] at e e'
    by_cases h1 : h.next = b
    · by_cases h2 : h.next = b'
      · exact h1.symm.trans h2
      · rw [if_neg h2] at e'
        subst h1
        rw [ρ.upd_same] at hk
        cases hk
        have hk2 := hnew _ _ hk' (fun e => h2 e.symm)
        obtain ⟨k2, h3, h4⟩ := hr.live b' ob' e'
        rw [h3] at hk2
        cases hk2
        have := h4.there
        omega
    · rw [if_neg h1] at e
      have hk1 := hnew _ _ hk (fun e => h1 e.symm)
      obtain ⟨k1, h3, h4⟩ := hr.live b ob e
      rw [h3] at hk1
      cases hk1
      by_cases h2 : h.next = b'
      · subst h2
        rw [ρ.upd_same] at hk'
        cases hk'
        have := h4.there
        omega
      · rw [if_neg h2] at e'
        exact hr.inj b b' ob ob' k k' e e' h3 (hnew _ _ hk' (fun e => h2 e.symm)) hb
  · intro c ob e
    have h1 := hr.frame c ob e
    exact h1.congr (hpush h1.lt)
  · intro c ob b o2 k e e2 hk
    simp only [PT.get_set] at e2
    by_cases h1 : h.next = b
    · subst h1
      rw [ρ.upd_same] at hk
      cases hk
      have := (hr.frame c ob e).lt
      exact .of_ne (by omega) _
    · rw [if_neg h1] at e2
      exact hr.apart c ob b o2 k e e2 (hnew _ _ hk (fun e => h1 e.symm))
  · intro b ob e
    simp only [PT.get_set] at e
    show b.nat < h.next.succ.nat
    rw [Pos.nat_succ]
    split at e
    · rename_i hb; subst hb; omega
    · have := hr.below b ob e; omega

/-- A block is otherwise. -/
theorem HR.update {C : Cx} {ρ : Map} {h : Heap} {F : Nat → Option FObj} {w w' : World} (hr : HR C ρ h F w) {b : Pos} {o o' : AObj} {l : Loc} (hb : PT.get b h.t = some o)
    (hl : ρ b = some l) (hw : ∀ c, c ≠ l.block → w'.heap[c]? = w.heap[c]?) (ho : ObjR C ρ w' l o')
    (hk : ∀ x : FObj, x.Off l l.block o → x.Holds w l.block → x.Holds w' l.block ∧ x.Off l l.block o') : HR C ρ ⟨PT.set b o' h.t, h.next⟩ F w' := by
  refine ⟨?_, ?_, ?_, ?_, ?_⟩
  · intro x ob e
    simp only [PT.get_set] at e
    split at e
    · rename_i hx; subst hx; cases e; exact ⟨l, hl, ho⟩
    · rename_i hx
      obtain ⟨k, h1, h2⟩ := hr.live x ob e
      refine ⟨k, h1, h2.mono (Ext.refl _) (hw _ ?_)⟩
      intro e2
      exact hx (hr.inj b x o ob l k hb e hl h1 e2.symm)
  · intro x x' ob ob' k k' e e' hk hk' hkk
    simp only [PT.get_set] at e e'
    have hx : ∃ z, PT.get x h.t = some z := by
      split at e
      · rename_i hx; subst hx; exact ⟨o, hb⟩
      · exact ⟨_, e⟩
    have hx' : ∃ z, PT.get x' h.t = some z := by
      split at e'
      · rename_i hx; subst hx; exact ⟨o, hb⟩
      · exact ⟨_, e'⟩
    obtain ⟨z, hz⟩ := hx
    obtain ⟨z', hz'⟩ := hx'
    exact hr.inj x x' z z' k k' hz hz' hk hk' hkk
  · intro c ob e
    have h1 := hr.frame c ob e
    have h2 := hr.apart c ob b o l e hb hl
    by_cases hc : c = l.block
    · subst hc; exact (hk ob h2 h1).1
    · exact h1.congr (hw c hc)
  · intro c ob x o2 k e e2 hk2
    simp only [PT.get_set] at e2
    split at e2
    · rename_i hx
      subst hx; rw [hl] at hk2; cases hk2; cases e2
      have h1 := hr.frame c ob e
      have h2 := hr.apart c ob b o l e hb hl
      by_cases hc : c = l.block
      · subst hc; exact (hk ob h2 h1).2
      · exact .of_ne (fun e => hc e.symm) _
    · exact hr.apart c ob x o2 k e e2 hk2
  · intro x ob e
    simp only [PT.get_set] at e
    split at e
    · rename_i hx; subst hx; exact hr.below b o hb
    · exact hr.below x ob e

/-- Blocks that are no plain cells are wholly the abstract memory's. -/
theorem FObj.whole {w w' : World} {l : Loc} {o o' : AObj} (hne : ∀ cs, o ≠ .cells cs none) (x : FObj) (h : x.Off l l.block o) (_ : x.Holds w l.block) : x.Holds w' l.block ∧ x.Off l l.block o' :=
  absurd rfl (h.ne hne)

/-- A block is forgotten. -/
theorem HR.rem {C : Cx} {ρ : Map} {h : Heap} {F : Nat → Option FObj} {w : World} (hr : HR C ρ h F w) (b : Pos) : HR C ρ ⟨PT.rem b h.t, h.next⟩ F w := by
  have key : ∀ {x : Pos} {o : AObj}, PT.get x (PT.rem b h.t) = some o → PT.get x h.t = some o := fun {x o} e => by
    rw [PT.get_rem] at e; split at e
    · cases e
    · exact e
  exact ⟨fun x o e => hr.live x o (key e), fun x x' o o' l l' e e' => hr.inj x x' o o' l l' (key e) (key e'), hr.frame,
    fun c o x ob l e e' => hr.apart c o x ob l e (key e'), fun x o e => hr.below x o (key e)⟩

end Go.Am

namespace Go.Am

theorem nth_eq : ∀ (l : List AV) (i : Nat), nth l i = l[i]?
  | [], _ => by simp [nth]
  | _ :: _, 0 => rfl
  | _ :: l, i + 1 => by simp [nth, nth_eq l i]

theorem dropX_eq : ∀ (l : List AV) (n : Nat), dropX l n = l.drop n
  | _, 0 => by simp [dropX]
  | [], _ + 1 => by simp [dropX]
  | _ :: l, n + 1 => by simp [dropX, dropX_eq l n]

theorem takeX_eq : ∀ {l : List AV} {n : Nat} {r : List AV}, takeX l n = some r → r = l.take n ∧ r.length = n
  | l, 0, r, h => by cases l <;> (simp only [takeX, Option.some.injEq] at h; subst h; simp)
  | [], _ + 1, _, h => by simp [takeX] at h
  | v :: l, n + 1, r, h => by
    simp only [takeX] at h
    split at h
    · rename_i r' e
      cases h
      obtain ⟨h1, h2⟩ := takeX_eq e
      simp [h2, ← h1]
    · cases h

theorem len_eq : ∀ (l : List AV) (n : Nat), len l n = l.length + n
  | [], n => by simp [len]
  | _ :: l, n => by simp [len, len_eq l (n + 1)]; omega

theorem allCells_eq : ∀ {l : List AV}, allCells l = true → ∀ v ∈ l, v.isCell = true
  | [], _, v, h => by cases h
  | x :: l, e, v, h => by
    simp only [allCells] at e
    split at e
    · rename_i hx
      cases h with
      | head => exact hx
      | tail _ h => exact allCells_eq e v h
    · cases e

theorem over_eq : ∀ {vs l r : List AV}, over vs l = some r → vs.length ≤ l.length ∧ r = vs ++ l.drop vs.length
  | [], l, r, h => by simp only [over, Option.some.injEq] at h; subst h; simp
  | _ :: _, [], r, h => by simp [over] at h
  | v :: vs, x :: l, r, h => by
    simp only [over] at h
    split at h
    · rename_i r' e
      cases h
      obtain ⟨h1, h2⟩ := over_eq e
      simp [h1, h2]
    · cases h

theorem writeAt_eq : ∀ {n : Nat} {vs l r : List AV}, writeAt n vs l = some r → n + vs.length ≤ l.length ∧ r = l.take n ++ vs ++ l.drop (n + vs.length)
  | 0, vs, l, r, h => by
    have h' : over vs l = some r := by cases l <;> simpa [writeAt] using h
    obtain ⟨h1, h2⟩ := over_eq h'
    simp [h1, h2]
  | _ + 1, vs, [], r, h => by simp [writeAt] at h
  | n + 1, vs, x :: l, r, h => by
    simp only [writeAt] at h
    split at h
    · rename_i r' e
      cases h
      obtain ⟨h1, h2⟩ := writeAt_eq e
      refine ⟨by simp; omega, ?_⟩
      rw [h2, show n + 1 + vs.length = (n + vs.length) + 1 by omega]
      simp
    · cases h

theorem eqI_eq (a b : Int) : eqI a b = (a == b) := by
  cases a <;> cases b <;> simp only [eqI] <;> (rw [Bool.eq_iff_iff]; simp [Nat.beq_eq]) <;> omega

theorem ltI_eq (a b : Int) : ltI a b = decide (a < b) := by
  rw [Bool.eq_iff_iff]
  cases a <;> cases b <;> simp only [ltI, decide_eq_true_eq, Nat.blt_eq, Int.ofNat_eq_natCast, Int.negSucc_eq, Bool.false_eq_true, eq_self, true_iff, false_iff] <;> omega

theorem eqStr_eq : ∀ (a b : List Nat), eqStr a b = (a == b)
  | [], [] => rfl
  | [], _ :: _ => rfl
  | _ :: _, [] => rfl
  | x :: a, y :: b => by
    simp only [eqStr]
    split
    · rename_i h
      have h1 : x = y := Nat.eq_of_beq_eq_true h
      subst h1
      rw [eqStr_eq a b]
      simp [List.cons_beq_cons]
    · rename_i h
      have : x ≠ y := fun e => by subst e; simp at h
      simp [List.cons_beq_cons, this]

theorem eqKind_eq {j k : IntKind} (h : eqKind j k = true) : j = k := by cases j <;> cases k <;> first | rfl | (simp [eqKind] at h)

theorem wrapI_eq (k : IntKind) (n : Int) : wrapI k n = k.wrap n := by
  cases n with
  | ofNat m =>
    simp only [wrapI]
    split
    · rename_i h
      rw [Nat.blt_eq] at h
      cases k <;> simp only at h <;> simp [IntKind.wrap, IntKind.bits, IntKind.signed] <;> omega
    · rfl
  | negSucc m => rfl

theorem UInt8.map_inj {a b : List UInt8} (h : a.map UInt8.toNat = b.map UInt8.toNat) : a = b := by
  induction a generalizing b with
  | nil => cases b <;> simp_all
  | cons x a ih =>
    cases b with
    | nil => simp at h
    | cons y b =>
      simp only [List.map_cons, List.cons.injEq] at h
      rw [ih h.2, UInt8.toNat_inj.1 h.1]

mutual
theorem ofVal_good (ρ : Map) : ∀ (v : Value) (a : AV), ofVal v = some a → VR ρ a v
  | .bool b, a, h => by simp only [ofVal, Option.some.injEq] at h; subst h; simp [VR]
  | .int k n, a, h => by simp only [ofVal, Option.some.injEq] at h; subst h; simp [VR]
  | .string s, a, h => by simp only [ofVal, Option.some.injEq] at h; subst h; simp only [VR]; exact ⟨s, rfl, rfl⟩
  | .pointer none, a, h => by simp only [ofVal, Option.some.injEq] at h; subst h; simp [VR]
  | .pointer (some _), a, h => by simp [ofVal] at h
  | .slice none 0 0, a, h => by simp only [ofVal, Option.some.injEq] at h; subst h; simp [VR]
  | .slice none 0 (n + 1), a, h => by simp [ofVal] at h
  | .slice none (n + 1) _, a, h => by simp [ofVal] at h
  | .slice (some _) _ _, a, h => by simp [ofVal] at h
  | .map none, a, h => by simp only [ofVal, Option.some.injEq] at h; subst h; simp [VR]
  | .map (some _), a, h => by simp [ofVal] at h
  | .nilFunc, a, h => by simp only [ofVal, Option.some.injEq] at h; subst h; simp [VR]
  | .nilIface, a, h => by simp only [ofVal, Option.some.injEq] at h; subst h; simp [VR]
  | .func fn x y, a, h => by
    cases fn with
    | func f =>
      simp only [ofVal] at h
      by_cases hf : f < 65536 ∧ x.size = 0 ∧ y.size = 0
      · rw [if_pos hf] at h
        obtain ⟨h1, h2, h3⟩ := hf
        have h4 : f < 16777216 := Nat.lt_of_lt_of_le h1 (by decide)
        rw [Array.size_eq_zero_iff] at h2 h3
        subst h2; subst h3
        simp only [Option.some.injEq] at h; subst h; simp only [VR]
        exact ⟨[], [], by rw [Pos.idx_ofIdx h4], VRs.nil, VRs.nil⟩
      · rw [if_neg hf] at h; cases h
    | _ => simp [ofVal] at h
  | .agg cs, a, h => by
    simp only [ofVal] at h
    cases e : ofVals cs.toList with
    | none => rw [e] at h; simp at h
    | some l =>
      rw [e] at h
      simp only [Option.map_some, Option.some.injEq] at h
      subst h
      simp only [VR]
      exact ⟨cs.toList, by simp, ofVals_good ρ cs.toList l e⟩
  | .float _ _, a, h => by simp [ofVal] at h
  | .complex _ _ _, a, h => by simp [ofVal] at h
  | .chan _, a, h => by simp [ofVal] at h
  | .iface _ _, a, h => by simp [ofVal] at h
  | .tuple _, a, h => by simp [ofVal] at h
theorem ofVals_good (ρ : Map) : ∀ (l : List Value) (a : List AV), ofVals l = some a → VRs ρ a l
  | [], a, h => by simp only [ofVals, Option.some.injEq] at h; subst h; exact VRs.nil
  | v :: l, a, h => by
    simp only [ofVals] at h
    split at h
    · rename_i x r e1 e2
      simp only [Option.some.injEq] at h; subst h
      exact VRs.cons (ofVal_good ρ v x e1) (ofVals_good ρ l r e2)
    · cases h
end

theorem val_good {ρ : Map} {tm : PT AV} {a : Act} {x : Operand} {y : AArg} (h : trArg x = some y) (e : ER ρ tm a.tmps) : VR ρ (val tm y) (a.eval x) := by
  cases x with
  | tmp t =>
    simp only [trArg] at h
    split at h
    · rename_i ht
      cases h
      have := e (.ofIdx t)
      have h4 : t < 16777216 := Nat.lt_of_lt_of_le ht (by decide)
      rw [Pos.idx_ofIdx h4] at this
      simp only [val, Act.eval]
      cases h2 : PT.get (.ofIdx t) tm with
      | none => simpa [h2] using this
      | some v => simpa [h2] using this
    · cases h
  | const v =>
    simp only [trArg] at h
    cases h2 : ofVal v with
    | none => rw [h2] at h; cases h
    | some z => rw [h2] at h; cases h; exact ofVal_good ρ v z h2
  | global g => cases h
  | func f =>
    simp only [trArg] at h
    split at h
    · rename_i hf
      cases h
      have h4 : f < 16777216 := Nat.lt_of_lt_of_le hf (by decide)
      simp only [val, Act.eval, VR]
      exact ⟨[], [], by rw [Pos.idx_ofIdx h4], VRs.nil, VRs.nil⟩
    · cases h

theorem vals_good {ρ : Map} {tm : PT AV} {a : Act} (e : ER ρ tm a.tmps) : ∀ {xs : List Operand} {ys : List AArg}, trArgs xs = some ys → VRs ρ (vals tm ys) (xs.map a.eval)
  | [], ys, h => by simp only [trArgs, List.mapM_nil] at h; cases h; exact VRs.nil
  | x :: xs, ys, h => by
    simp only [trArgs, List.mapM_cons] at h
    cases h1 : trArg x with
    | none => rw [h1] at h; cases h
    | some y =>
      cases h2 : List.mapM trArg xs with
      | none => rw [h1, h2] at h; cases h
      | some l =>
        rw [h1, h2] at h
        cases h
        exact VRs.cons (val_good h1 e) (vals_good e (xs := xs) h2)

end Go.Am

namespace Go.Am

/-- What the table says of types holds of the program. -/
structure Cx.OK (C : Cx) : Prop where
  desc : ∀ t i, C.ty t = some i → C.P.underlying t = some i.desc
  info : ∀ t i, C.ty t = some i → ∃ x, C.P.info? t = some x ∧ x.size = i.size ∧ x.bytes = i.bytes ∧ ∀ z, i.zero = some z → ∃ v, x.zero = some v ∧ ofVal v = some z
  one : ∀ t i, C.ty t = some i → i.agg = false → i.size = 1
  ibyte : ∀ (s : ByteArray) (c : Nat) (w : World), c < 256 → (callFunc C.ib #[.string s, .int .u8 c]).run C.P w = .ok (.value (.int .i64 (idxOf c (s.data.toList.map UInt8.toNat) 0))) w
  order : C.P.follows .mixedOrders = true

section
variable {C : Cx} (ok : C.OK)
include ok

theorem run_under {t : TypeId} {d : TypeDesc} (h : under C.ty t = some d) (w : World) : (underlying t).run C.P w = .ok d w := by
  unfold under at h
  cases e : C.ty t with
  | none => rw [e] at h; cases h
  | some i => rw [e] at h; cases h; exact run_underlying (ok.desc t i e) w

theorem run_size {t : TypeId} {i : TI} (h : C.ty t = some i) (w : World) : (sizeOf t).run C.P w = .ok i.size w := by
  obtain ⟨x, h1, h2, _⟩ := ok.info t i h
  simp [sizeOf, typeInfo, h1, h2]

theorem run_info {t : TypeId} {i : TI} (h : C.ty t = some i) (w : World) : ∃ x, (typeInfo t).run C.P w = .ok x w ∧ x.bytes = i.bytes := by
  obtain ⟨x, h1, h2, h3, _⟩ := ok.info t i h
  exact ⟨x, by simp [typeInfo, h1], h3⟩

theorem run_agg {t : TypeId} {i : TI} (h : C.ty t = some i) (w : World) : (isAgg t).run C.P w = .ok i.agg w := by
  have h1 := run_underlying (ok.desc t i h) w
  unfold isAgg TI.agg
  simp only [Sem.run_bind, h1, Result.andThen_ok]
  cases i.desc <;> rfl

theorem run_zero {t : TypeId} {i : TI} {z : AV} (h : C.ty t = some i) (hz : i.zero = some z) (w : World) : ∃ v, (zeroValue t).run C.P w = .ok v w ∧ ofVal v = some z := by
  obtain ⟨x, h1, _, _, h4⟩ := ok.info t i h
  obtain ⟨v, h5, h6⟩ := h4 z hz
  exact ⟨v, by simp [zeroValue, typeInfo, h1, h5], h6⟩
end

theorem Loc.at_add (l : Loc) (off n : Nat) : (l.at off).add n = l.at (off + n) := by
  unfold Loc.at Addr.add
  split
  · rename_i h; subst h; simp
  · simp; omega

section
variable {C : Cx} {ρ : Map} {h : Heap} {F : Nat → Option FObj} {w : World}

/-- A block of cells, as it lies there. -/
theorem HR.row (hr : HR C ρ h F w) {b : Pos} {cs : List AV} {sp : Option Nat} {l : Loc} (hb : PT.get b h.t = some (.cells cs sp)) (hl : ρ b = some l) :
    ∃ c e, RowAt w l c e cs.length sp ∧ (∀ i a, cs[i]? = some a → ∃ v, c[l.base + i]? = some v ∧ VR ρ a v) ∧ (∀ k, sp = some k → l.base + l.lim ≤ c.size) := by
  obtain ⟨k, h1, h2⟩ := hr.live b _ hb
  rw [hl] at h1
  cases h1
  obtain ⟨c, e, h3, h4, h5⟩ := h2
  exact ⟨c, e, h3, fun i a e => h4 i a (by rw [nth_eq]; exact e), h5⟩

theorem cell_of_row {c : Array Value} {e : TypeId} {l : Loc} (h : w.heap[l.block]? = some (.cells c e (0, 0))) (i : Nat) : w.cell? (l.at i) = c[l.base + i]? := by
  simp [World.cell?, Loc.at, h]

theorem cell_of_rowAt {c : Array Value} {e : TypeId} {l : Loc} {n : Nat} {sp : Option Nat} (h : RowAt w l c e n sp) (i : Nat) : w.cell? (l.at i) = c[l.base + i]? := by
  obtain ⟨z, h, _⟩ := h
  simp [World.cell?, Loc.at, h]

/-- Cells in a row are written, where that isn't barred. -/
theorem run_storeFree {P : Program} (g o : Nat) (t : TypeId) (z : Nat × Nat) : ∀ (vs : List Value) (i : Nat) (cur : Array Value) (w : World), w.heap[g]? = some (.cells cur t z) → (∀ j, j < vs.length → Free z (o + i + j)) → o + i + vs.length ≤ cur.size → (∀ v ∈ vs, v.oneCell' = true) →
    (storeCells ⟨g, o, none⟩ vs i).run P w = .ok () (w.setRow g (cur.toList.take (o + i) ++ vs ++ cur.toList.drop (o + i + vs.length)).toArray)
  | [], i, cur, w, hg, _, _, _ => by
    simp only [storeCells, List.append_nil, List.length_nil, Nat.add_zero, List.take_append_drop, Array.toArray_toList]
    rw [setRow_self w g cur t z hg]
    rfl
  | v :: rest, i, cur, w, hg, hz, hl, h1 => by
    have hi : o + i < cur.size := by simp at hl; omega
    have hadd : (⟨g, o, none⟩ : Addr).add i = ⟨g, o + i, none⟩ := by unfold Addr.add; split <;> simp_all
    have hcell : w.cell? ⟨g, o + i, none⟩ = some cur[o + i] := by simp [World.cell?, hg, hi]
    have hfro : w.frozen? ⟨g, o + i, none⟩ = false := by
      have := hz 0 (by simp)
      simp only [Free, Nat.add_zero] at this
      simp only [World.frozen?, hg]
      exact this
    have hst : (store ((⟨g, o, none⟩ : Addr).add i) v).run P w = .ok () (w.setRow g (cur.setIfInBounds (o + i) v)) := by
      rw [hadd, run_store P w _ v _ (h1 v (by simp)), hcell]
      simp [hfro, setCell_eq_setRow w g (o + i) cur t z v hg]
    have ih := run_storeFree (P := P) g o t z rest (i + 1) (cur.setIfInBounds (o + i) v) (w.setRow g (cur.setIfInBounds (o + i) v)) (setRow_heap w g cur _ t _ hg) (fun j hj => by
      have := hz (j + 1) (by simpa using hj)
      rwa [show o + i + (j + 1) = o + (i + 1) + j by omega] at this) (by simp at hl ⊢; omega) (fun x hx => h1 x (by simp [hx]))
    simp only [storeCells, Sem.run_bind, hst, Result.andThen_ok, ih, setRow_setRow]
    congr 3
    have e := list_seg_step cur.toList (o + i) v rest (by simp at hl ⊢; omega)
    simpa [Array.toList_setIfInBounds, Nat.add_assoc] using e

theorem pick_cells {l : Loc} : ∀ (r : List AV) (off : Nat), (∀ j x, r[j]? = some x → ∃ v, w.cell? (l.at (off + j)) = some v ∧ VR ρ x v) →
    ∃ vs, VRs ρ r vs ∧ ∀ j v, vs[j]? = some v → w.cell? (l.at (off + j)) = some v
  | [], off, _ => ⟨[], VRs.nil, fun j v e => by simp at e⟩
  | x :: r, off, hc => by
    obtain ⟨v, h1, h2⟩ := hc 0 x rfl
    obtain ⟨vs, h3, h4⟩ := pick_cells r (off + 1) (fun j y e => by
      obtain ⟨u, h5, h6⟩ := hc (j + 1) y (by simpa using e)
      exact ⟨u, by rw [show off + 1 + j = off + (j + 1) by omega]; exact h5, h6⟩)
    refine ⟨v :: vs, VRs.cons h2 h3, ?_⟩
    intro j u e
    cases j with
    | zero => simp at e; subst e; simpa using h1
    | succ j => rw [show off + (j + 1) = off + 1 + j by omega]; exact h4 j u (by simpa using e)

/-- Cells in a row are read, in whatever world of this memory. -/
theorem read_cells' (hr : HR C ρ h F w) {b : Pos} {cs : List AV} {sp : Option Nat} {l : Loc} (hb : PT.get b h.t = some (.cells cs sp)) (hl : ρ b = some l)
    {off k : Nat} {r : List AV} (ht : takeX (dropX cs off) k = some r) : ∃ vs, VRs ρ r vs ∧ vs.length = k ∧ ∀ w' : World, w'.heap = w.heap → (loadCells (l.at off) k).run C.P w' = .ok vs.toArray w' := by
  obtain ⟨c, e, h1, h2, _⟩ := hr.row hb hl
  obtain ⟨h3, h4⟩ := takeX_eq ht
  rw [dropX_eq] at h3
  obtain ⟨vs, h5, h6⟩ := pick_cells (ρ := ρ) (w := w) (l := l) r off (fun j x ej => by
    have : cs[off + j]? = some x := by
      rw [h3, List.getElem?_take] at ej
      split at ej
      · simpa using ej
      · cases ej
    obtain ⟨v, h7, h8⟩ := h2 _ _ this
    exact ⟨v, by rw [cell_of_rowAt h1]; exact h7, h8⟩)
  have h7 : vs.length = k := by rw [h5.length, h4]
  refine ⟨vs, h5, h7, ?_⟩
  intro w' hw'
  have := run_loadCells_list (P := C.P) w' (l.at off) vs (fun j v e => by
    rw [Loc.at_add]
    have := h6 j v e
    simp only [World.cell?, hw'] at this ⊢
    exact this)
  rwa [h7] at this

theorem read_cells (hr : HR C ρ h F w) {b : Pos} {cs : List AV} {sp : Option Nat} {l : Loc} (hb : PT.get b h.t = some (.cells cs sp)) (hl : ρ b = some l)
    {off k : Nat} {r : List AV} (ht : takeX (dropX cs off) k = some r) : ∃ vs, VRs ρ r vs ∧ vs.length = k ∧ (loadCells (l.at off) k).run C.P w = .ok vs.toArray w := by
  obtain ⟨vs, h1, h2, h3⟩ := read_cells' hr hb hl ht
  exact ⟨vs, h1, h2, h3 w rfl⟩

theorem VRs.ofGet : ∀ {r : List AV} {vs : List Value}, vs.length = r.length → (∀ (j : Nat) (x : AV) (v : Value), r[j]? = some x → vs[j]? = some v → VR ρ x v) → VRs ρ r vs
  | [], [], _, _ => VRs.nil
  | [], _ :: _, e, _ => by simp at e
  | _ :: _, [], e, _ => by simp at e
  | x :: r, v :: vs, e, hx => VRs.cons (hx 0 x v rfl rfl) (VRs.ofGet (by simpa using e) fun j y u h1 h2 => hx (j + 1) y u (by simpa using h1) (by simpa using h2))

theorem VRs.getElem {r : List AV} {vs : List Value} (hv : VRs ρ r vs) {j : Nat} {x : AV} (e : r[j]? = some x) : ∃ v, vs[j]? = some v ∧ VR ρ x v :=
  hv.get (by rw [nth_eq]; exact e)

/-- Cells in a row are written. -/
theorem write_cells (hr : HR C ρ h F w) {b : Pos} {cs : List AV} {sp : Option Nat} {l : Loc} (hb : PT.get b h.t = some (.cells cs sp)) (hl : ρ b = some l)
    {off : Nat} {new cs' : List AV} {vs : List Value} (hw : writeAt off new cs = some cs') (hv : VRs ρ new vs) (hc : ∀ v ∈ new, v.isCell = true) :
    ∃ w', (storeCells (l.at off) vs).run C.P w = .ok () w' ∧ HR C ρ ⟨PT.set b (.cells cs' sp) h.t, h.next⟩ F w' ∧ Same w w' := by
  obtain ⟨c, e, h1, h2, h3⟩ := hr.row hb hl
  obtain ⟨h4, h5⟩ := writeAt_eq hw
  have hlen := hv.length
  have hone : ∀ v ∈ vs, v.oneCell' = true := by
    intro v hm
    obtain ⟨j, hj⟩ := List.getElem?_of_mem hm
    have hj' : j < new.length := by
      have := (List.getElem?_eq_some_iff.1 hj).1
      omega
    obtain ⟨u, h6, h7⟩ := hv.getElem (List.getElem?_eq_getElem hj')
    rw [hj] at h6
    cases h6
    exact h7.oneCell (hc _ (List.getElem_mem hj'))
  by_cases h0 : new.length = 0
  · have h7 : vs = [] := List.eq_nil_of_length_eq_zero (by omega)
    have h8 : new = [] := List.eq_nil_of_length_eq_zero h0
    subst h7; subst h8
    have h9 : cs' = cs := by rw [h5]; simp
    subst h9
    exact ⟨w, rfl, hr.update hb hl (fun _ _ => rfl) ⟨c, e, h1, fun i a hi => h2 i a (by rw [← nth_eq]; exact hi), h3⟩ (fun x q1 q2 => ⟨q2, q1⟩), Same.refl w⟩
  have hfit : l.base + off + 0 + vs.length ≤ c.size := by
    · have h6 : off + new.length - 1 < cs.length := by omega
      obtain ⟨v, h7, _⟩ := h2 _ _ (List.getElem?_eq_getElem h6)
      have := (Array.getElem?_eq_some_iff.1 h7).1
      omega
  obtain ⟨z, g1, g2, g3⟩ := h1
  have hcl : cs'.length = cs.length := by rw [h5]; simp; omega
  have hrun := run_storeFree (P := C.P) l.block (l.base + off) e z vs 0 c w g1 (fun j hj => by
    have := g3 (off + j) (by omega)
    rwa [show l.base + off + 0 + j = l.base + (off + j) by omega]) hfit hone
  refine ⟨_, hrun, ?_, ⟨by simp, by simp, by simp, by simp⟩⟩
  refine hr.update hb hl (fun k hk => setRow_other w _ k _ hk) ?_ ?_
  rotate_left
  · intro x q1 q2
    cases x with
    | ex o => exact absurd rfl q1
    | part lo hi c0 e0 z0 =>
      obtain ⟨c', r1, r2, r3⟩ := q2
      obtain ⟨cs1, r4, r5, r6⟩ := q1 rfl
      cases r4
      rw [g1] at r1
      cases r1
      refine ⟨⟨_, setRow_heap w _ c _ e _ g1, ?_, ?_⟩, fun _ => ⟨cs', rfl, r5, by rw [hcl]; exact r6⟩⟩
      · rw [← r2]; simp; omega
      · intro j hj
        rw [← r3 j hj]
        simp only [Nat.add_zero, List.getElem?_toArray]
        rcases hj with hj | hj
        · rw [List.append_assoc, List.getElem?_append_left (by simp; omega), List.getElem?_take, if_pos (by omega)]
          simp
        · rw [List.getElem?_append_right (by simp; omega), List.getElem?_drop, ← Array.getElem?_toList]
          congr 1
          simp
          omega
  refine ⟨_, e, ⟨z, setRow_heap w _ c _ e _ g1, g2, by rw [hcl]; exact g3⟩, ?_, ?_⟩
  · intro i a hi
    rw [nth_eq, h5] at hi
    simp only [Nat.add_zero, List.getElem?_toArray]
    by_cases hi1 : i < off
    · rw [List.append_assoc, List.getElem?_append_left (by simp; omega), List.getElem?_take, if_pos hi1] at hi
      obtain ⟨v, h6, h7⟩ := h2 i a hi
      refine ⟨v, ?_, h7⟩
      have h8 := (Array.getElem?_eq_some_iff.1 h6).1
      rw [List.append_assoc, List.getElem?_append_left (by simp; omega), List.getElem?_take, if_pos (by omega)]
      simpa using h6
    · by_cases hi2 : i < off + new.length
      · rw [List.append_assoc, List.getElem?_append_right (by simp; omega), List.getElem?_append_left (by simp; omega)] at hi
        obtain ⟨v, h6, h7⟩ := hv.getElem hi
        refine ⟨v, ?_, h7⟩
        rw [List.append_assoc, List.getElem?_append_right (by simp; omega), List.getElem?_append_left (by simp; omega)]
        rw [← h6]
        congr 1
        simp
        omega
      · rw [List.getElem?_append_right (by simp; omega)] at hi
        have h9 : cs[i]? = some a := by
          rw [← hi, List.getElem?_drop]
          congr 1
          simp
          omega
        obtain ⟨v, h6, h7⟩ := h2 i a h9
        refine ⟨v, ?_, h7⟩
        rw [List.getElem?_append_right (by simp; omega), List.getElem?_drop]
        rw [← h6, ← Array.getElem?_toList]
        congr 1
        simp
        omega
  · intro k hk
    have h7 := h3 k hk
    simp
    omega
end
end Go.Am

