/- An abstract machine for Go code and its soundness over the model; no condition of its own. Used by the proof that the law TopScheduled returns true at every input. -/
import Derived.Test.YtofefignkpmlbaaGreatFo
import Derived.Test.YtofefignkpmlbaaGreatRc
import Derived.ProofKit
import Derived.Deep.Slices
/- A row of parts that comes in, as the abstract memory has it; memory behind a call. -/
namespace Go.Am
open Go.Proofs Go.ChangeShapes Go.WideShapes Go.RowKit
set_option maxRecDepth 100000

theorem cells2 : Tryz.prog.cellsOf 2 = 1 := by kernel_rfl
theorem cells4 : Tryz.prog.cellsOf 4 = 1 := by kernel_rfl
theorem cells5 : Tryz.prog.cellsOf 5 = 1 := by kernel_rfl
theorem cells29 : Tryz.prog.cellsOf 29 = 7 := by kernel_rfl

def PartV.vals (p : PartV) : List Value := [.int .u8 (Int.ofNat p.kd), .int .u8 (Int.ofNat p.a), .int .u8 (Int.ofNat p.b), .int .u8 (Int.ofNat p.c), .int .i64 p.k, .int .i64 p.v, .bool p.yes]

/-- The parts of a row, behind a slice. -/
def PartsAt (W : World) (v : Value) (ps : List PartV) : Prop :=
  (v = .slice none 0 0 ∧ ps = []) ∨ ∃ (a : Addr) (cap : Nat), v = .slice (some a) ps.length cap ∧ ps.length ≤ cap ∧ (0 < cap → a.spot = none) ∧
    (ps ≠ [] → ∃ c e z, W.heap[a.block]? = some (.cells c e z) ∧ (∀ i (hi : i < ps.length) j x, (ps[i]'hi).vals[j]? = some x → c[a.off + i * 7 + j]? = some x) ∧ ∀ i, i < ps.length * 7 → Free z (a.off + i))

theorem u8_nat {n : Int} (h : (Lit.int .u8 n).wf = true) : Int.ofNat n.toNat = n := by
  have : 0 ≤ n ∧ n ≤ 255 := by simpa [Lit.wf, IntKind.min, IntKind.max, IntKind.signed, IntKind.bits] using h
  exact Int.toNat_of_nonneg this.1

theorem take_one {cs : List Value} {i : Nat} {x : Value} (h : (cs.drop i).take 1 = [x]) : cs[i]? = some x := by
  have : ((cs.drop i).take 1)[0]? = some x := by rw [h]; rfl
  rw [List.getElem?_take, if_pos (by omega), List.getElem?_drop] at this
  simpa using this

/-- One part. -/
theorem open_part {H : Type} {enc : TypeId × Value → H} {w : World} {base : Nat} {spare : Nat → Bool} {held : Bool} {fuel : Nat} {cs : List Value} {x : DataW H × List MemPlace}
    (h : DataW.trod enc Tryz.prog w base spare held fuel 29 cs = some x) : ∃ p : PartV, cs = p.vals := by
  obtain ⟨xs, n, rfl, rfl, hl, hs, hx⟩ := DataW.trod_struct Tryz.underlying29 h
  rw [cells29] at hl
  have h0 : DataW.trod enc Tryz.prog w base spare held n 5 ((cs.drop 0).take (Tryz.prog.cellsOf 5)) = xs[0]? := hx 0 _ rfl
  have h1 : DataW.trod enc Tryz.prog w base spare held n 5 ((cs.drop 1).take (Tryz.prog.cellsOf 5)) = xs[1]? := hx 1 _ rfl
  have h2 : DataW.trod enc Tryz.prog w base spare held n 5 ((cs.drop 2).take (Tryz.prog.cellsOf 5)) = xs[2]? := hx 2 _ rfl
  have h3 : DataW.trod enc Tryz.prog w base spare held n 5 ((cs.drop 3).take (Tryz.prog.cellsOf 5)) = xs[3]? := hx 3 _ rfl
  have h4 : DataW.trod enc Tryz.prog w base spare held n 2 ((cs.drop 4).take (Tryz.prog.cellsOf 2)) = xs[4]? := hx 4 _ rfl
  have h5 : DataW.trod enc Tryz.prog w base spare held n 2 ((cs.drop 5).take (Tryz.prog.cellsOf 2)) = xs[5]? := hx 5 _ rfl
  have h6 : DataW.trod enc Tryz.prog w base spare held n 4 ((cs.drop 6).take (Tryz.prog.cellsOf 4)) = xs[6]? := hx 6 _ rfl
  simp only [cells2, cells4, cells5] at h0 h1 h2 h3 h4 h5 h6
  have hs : xs.length = 7 := hs
  rw [List.getElem?_eq_getElem (by omega)] at h0 h1 h2 h3 h4 h5 h6
  obtain ⟨n0, q0, _, w0⟩ := DataW.trod_int Tryz.underlying5 h0
  obtain ⟨n1, q1, _, w1⟩ := DataW.trod_int Tryz.underlying5 h1
  obtain ⟨n2, q2, _, w2⟩ := DataW.trod_int Tryz.underlying5 h2
  obtain ⟨n3, q3, _, w3⟩ := DataW.trod_int Tryz.underlying5 h3
  obtain ⟨n4, q4, _, _⟩ := DataW.trod_int Tryz.underlying2 h4
  obtain ⟨n5, q5, _, _⟩ := DataW.trod_int Tryz.underlying2 h5
  obtain ⟨b6, q6, _⟩ := DataW.trod_bool Tryz.underlying4 h6
  refine ⟨⟨n0.toNat, n1.toNat, n2.toNat, n3.toNat, n4, n5, b6⟩, ?_⟩
  simp only [PartV.vals, u8_nat w0, u8_nat w1, u8_nat w2, u8_nat w3]
  replace q0 := take_one q0
  replace q1 := take_one q1
  replace q2 := take_one q2
  replace q3 := take_one q3
  replace q4 := take_one q4
  replace q5 := take_one q5
  replace q6 := take_one q6
  apply List.ext_getElem?
  intro i
  match i with
  | 0 => exact q0
  | 1 => exact q1
  | 2 => exact q2
  | 3 => exact q3
  | 4 => exact q4
  | 5 => exact q5
  | 6 => exact q6
  | i + 7 =>
    rw [List.getElem?_eq_none (by omega)]
    rfl

theorem add_spot {a : Addr} {i : Nat} {w : World} {v : Value} (h : w.cell? (a.add i) = some v) : ∃ c e z, w.heap[a.block]? = some (.cells c e z) ∧ c[a.off + i]? = some v ∧ (i = 0 → a.spot = none) := by
  unfold World.cell? at h
  have hb : (a.add i).block = a.block := by unfold Addr.add; split <;> rfl
  have ho : (a.add i).off = a.off + i := by unfold Addr.add; split <;> simp_all
  rw [hb, ho] at h
  split at h
  · rename_i c e z hh
    split at h
    · cases h
    · rename_i hs
      refine ⟨c, e, z, hh, h, ?_⟩
      intro hi
      subst hi
      simp only [Addr.add, if_true] at hs
      cases hsp : a.spot with
      | none => rfl
      | some _ => rw [hsp] at hs; simp at hs
  · cases h

/-- The argument, opened. -/
theorem open_parts {H : Type} {enc : TypeId × Value → H} {W : World} {base : Nat} {v : Value} {d : DataW H} {p : List MemPlace} (hval : Value.okWide Tryz.prog W .any base 22 v)
    (h : DataW.Trod enc Tryz.prog W 0 (fun _ => true) true 22 v d p) (hz : W.noneFrozen p) : ∃ ps, PartsAt W v ps := by
  obtain ⟨a0, len, cap, rfl⟩ := okWide_slice Tryz.underlying22 hval
  obtain ⟨fuel, hf⟩ := h
  simp only [Value.cells] at hf
  rcases Go.Deep.open_slice Tryz.underlying22 hf with ⟨hcs, _⟩ | ⟨a, l, c, m, n, D, Pl, hcs, _, hlc, _, hm, hx, hel⟩
  · simp at hcs
    obtain ⟨rfl, rfl, rfl⟩ := hcs
    exact ⟨[], .inl ⟨rfl, rfl⟩⟩
  · simp at hcs
    obtain ⟨rfl, rfl, rfl⟩ := hcs
    simp only [if_true] at hm
    subst hm
    rw [cells29] at hel hx
    simp only [Prod.mk.injEq] at hx
    obtain ⟨_, rfl⟩ := hx
    have hP : ∀ i, i < m → ∃ p : PartV, W.cells? 0 (a.add (i * 7)) 7 = some p.vals := by
      intro i hi
      obtain ⟨cs', h1, h2⟩ := hel i hi
      obtain ⟨p, rfl⟩ := open_part h2
      exact ⟨p, h1⟩
    have hcell : ∀ i, i < m → ∀ p : PartV, W.cells? 0 (a.add (i * 7)) 7 = some p.vals → ∀ j x, p.vals[j]? = some x → W.cell? (a.add (i * 7 + j)) = some x := by
      intro i hi p hp j x hj
      obtain ⟨_, _, h3⟩ := World.cells?_some hp
      have hj7 : j < 7 := by
        have := (List.getElem?_eq_some_iff.1 hj).1
        simpa [PartV.vals] using this
      have := h3 j hj7
      rw [Go.Deep.add_add] at this
      rw [this, hj]
    have hinh : Inhabited PartV := ⟨⟨0, 0, 0, 0, 0, 0, false⟩⟩
    obtain ⟨f, hfam⟩ := Go.Deep.choose_lt hP
    refine ⟨(List.range len).map f, .inr ⟨a, m, ?_, ?_, ?_, ?_⟩⟩
    · simp
    · simpa using hlc
    · intro h0
      have := hcell 0 h0 _ (hfam 0 h0) 0 _ rfl
      obtain ⟨_, _, _, _, _, h4⟩ := add_spot this
      exact h4 rfl
    · intro hne
      have hpos : 0 < len := by
        rcases Nat.eq_zero_or_pos len with h0 | h0
        · subst h0; exact absurd rfl hne
        · exact h0
      obtain ⟨c, e, z, h1, _, _⟩ := add_spot (hcell 0 (by omega) _ (hfam 0 (by omega)) 0 _ rfl)
      refine ⟨c, e, z, h1, ?_, ?_⟩
      · intro i hi j x hj
        simp only [List.length_map, List.length_range] at hi
        simp only [List.getElem_map, List.getElem_range] at hj
        obtain ⟨c', e', z', h2, h3, _⟩ := add_spot (hcell i (by omega) _ (hfam i (by omega)) j x hj)
        rw [h1] at h2
        cases h2
        rwa [Nat.add_assoc]
      · intro i hi
        simp only [List.length_map, List.length_range] at hi
        have hmem : MemPlace.cell a.block (a.off + i) ∈ MemPlace.row a (m * 7) ++ (List.range m).flatMap Pl := by
          refine List.mem_append.2 (.inl ?_)
          unfold MemPlace.row
          exact List.mem_map.2 ⟨i, List.mem_range.2 (by omega), rfl⟩
        have := hz _ _ hmem
        simp only [World.frozen?, h1] at this
        exact this
end Go.Am

namespace Go.Am
open Go.Proofs Go.ChangeShapes Go.WideShapes Go.RowKit

noncomputable abbrev CT : Cx := ⟨Tryz.prog, tyIn Tryz.prog tyn, ibn⟩

theorem encs_length : ∀ ps : List PartV, (encs ps).length = ps.length * 7
  | [] => rfl
  | p :: ps => by simp only [encs, PartV.enc, List.length_append, List.length_cons, List.length_nil, encs_length ps]; omega

theorem encs_nth : ∀ (ps : List PartV) (i : Nat) (x : AV), nth (encs ps) i = some x → ∃ (q : Nat) (hq : q < ps.length) (j : Nat), i = q * 7 + j ∧ j < 7 ∧ (ps[q]'hq).enc[j]? = some x
  | [], i, x, h => by simp [encs, nth] at h
  | p :: ps, i, x, h => by
    rw [nth_eq] at h
    simp only [encs] at h
    by_cases hi : i < 7
    · rw [List.getElem?_append_left (by simpa [PartV.enc] using hi)] at h
      exact ⟨0, by simp, i, by omega, hi, h⟩
    · have hl : p.enc.length = 7 := rfl
      rw [List.getElem?_append_right (by omega), hl] at h
      obtain ⟨q, hq, j, h1, h2, h3⟩ := encs_nth ps (i - 7) x (by rw [nth_eq]; exact h)
      exact ⟨q + 1, by simpa using hq, j, by omega, h2, h3⟩

theorem enc_val (p : PartV) : ∀ (j : Nat) (x : AV), p.enc[j]? = some x → ∃ y, p.vals[j]? = some y ∧ ∀ ρ u, VR ρ x u ↔ u = y
  | 0, x, h => by cases h; exact ⟨_, rfl, fun ρ u => by simp only [VR]⟩
  | 1, x, h => by cases h; exact ⟨_, rfl, fun ρ u => by simp only [VR]⟩
  | 2, x, h => by cases h; exact ⟨_, rfl, fun ρ u => by simp only [VR]⟩
  | 3, x, h => by cases h; exact ⟨_, rfl, fun ρ u => by simp only [VR]⟩
  | 4, x, h => by cases h; exact ⟨_, rfl, fun ρ u => by simp only [VR]⟩
  | 5, x, h => by cases h; exact ⟨_, rfl, fun ρ u => by simp only [VR]⟩
  | 6, x, h => by cases h; exact ⟨_, rfl, fun ρ u => by simp only [VR]⟩
  | j + 7, x, h => by simp [PartV.enc] at h

/-- Nothing has turned below. -/
theorem below_all {W w' : World} {ρ' : Map} {h' : Heap} (hr : HR CT ρ' h' (allOf W) w') (hs : Same W w') : RowKit.Below W.heap.size W w' :=
  ⟨hs.os, hs.tape, hs.output, hs.size, fun k hk => by
    rw [Array.getElem?_eq_getElem hk]
    exact hr.kept (Array.getElem?_eq_getElem hk)⟩

/-- A row of parts in the abstract memory. -/
theorem parts_hr {W : World} {v : Value} {ps : List PartV} (hp : PartsAt W v ps) :
    ∃ (ρ : Map) (h : Heap) (F : Nat → Option FObj) (sl : AV), HR CT ρ h F W ∧ VR ρ sl v ∧ InSl h sl ps ∧ (∀ x : Pos, h.next.nat ≤ x.nat → ρ x = none) ∧
      ∀ ρ' h' w', HR CT ρ' h' F w' → Out ρ ρ' h.next h'.next → Same W w' → (∀ bl l c, sl = .slice bl 0 l c → ps ≠ [] → h'.get bl = some (.cells (encs ps) none)) → RowKit.Below W.heap.size W w' := by
  have hnone : ∀ (l : Loc) (x : Pos), (Pos.O .H).nat ≤ x.nat → (fun b : Pos => if b = .H then some l else none) x = none := by
    intro l x hx
    simp only
    rw [if_neg]
    rintro rfl
    simp [Pos.nat] at hx
  rcases hp with ⟨rfl, rfl⟩ | ⟨a, cap, rfl, hle, hsp, hc⟩
  · refine ⟨fun _ => none, ⟨.E, .O .H⟩, allOf W, .nilslice, HR.bare CT W _, by simp only [VR], .inl ⟨rfl, rfl⟩, fun _ _ => rfl, ?_⟩
    intro ρ' h' w' h1 _ h3 _
    exact below_all h1 h3
  · by_cases hne : ps = []
    · subst hne
      refine ⟨fun b => if b = .H then some ⟨a.block, a.off, 0⟩ else none, ⟨.E, .O .H⟩, allOf W, .slice .H 0 0 (.c cap), ?_, ?_, .inr ⟨.H, cap, rfl, hle, fun h => absurd rfl h⟩, hnone _, ?_⟩
      · exact ⟨fun b o h => by simp at h, fun b b' o o' l l' h => by simp at h, fun c o h => allOf_holds h, fun c o b ob l _ h => by simp at h, fun b o h => by simp at h⟩
      · simp only [VR]
        refine ⟨_, if_pos trivial, a, rfl, hle, fun h0 => ?_⟩
        have := hsp h0
        cases a; simp_all [Loc.at]
      · intro ρ' h' w' h1 _ h3 _
        exact below_all h1 h3
    · obtain ⟨c, e, z, h1, hcell, hfree⟩ := hc hne
      have hsp : a.spot = none := hsp (Nat.lt_of_lt_of_le (List.length_pos_iff.2 hne) hle)
      have hcell' : ∀ i x, nth (encs ps) i = some x → ∃ y, c[a.off + i]? = some y ∧ ∀ ρ u, VR ρ x u ↔ u = y := by
        intro i x hi
        obtain ⟨q, hq, j, rfl, hj, h2⟩ := encs_nth ps i x hi
        obtain ⟨y, h3, h4⟩ := enc_val _ j x h2
        exact ⟨y, by have := hcell q hq j y h3; rwa [← Nat.add_assoc], h4⟩
      have hget : ∀ b o, PT.get b (.N .E (some (AObj.cells (encs ps) none)) .E) = some o → b = .H ∧ o = .cells (encs ps) none := by
        intro b o h
        cases b with
        | H => simp only [PT.get, Option.some.injEq] at h; exact ⟨rfl, h.symm⟩
        | O p => simp [PT.get] at h
        | I p => simp [PT.get] at h
      refine ⟨fun b => if b = .H then some ⟨a.block, a.off, 0⟩ else none, ⟨.N .E (some (.cells (encs ps) none)) .E, .O .H⟩, fun k => if k = a.block then some (.part a.off (a.off + ps.length * 7) c e z) else allOf W k,
        .slice .H 0 ps.length (.c cap), ?_, ?_, .inr ⟨.H, cap, rfl, hle, fun _ => ⟨rfl, by show 1 < 2; omega⟩⟩, hnone _, ?_⟩
      · refine ⟨?_, ?_, ?_, ?_, ?_⟩
        · intro b o h
          obtain ⟨rfl, rfl⟩ := hget b o h
          refine ⟨_, if_pos rfl, c, e, ⟨z, h1, fun h => absurd rfl h, ?_⟩, ?_, fun k h => by cases h⟩
          · rw [encs_length]; exact hfree
          · intro i x hi
            obtain ⟨y, h2, h3⟩ := hcell' i x hi
            exact ⟨y, h2, (h3 _ _).2 rfl⟩
        · intro b b' o o' l l' h h' _ _ _
          exact (hget b o h).1.trans (hget b' o' h').1.symm
        · intro k x hx
          by_cases hk : k = a.block
          · rw [if_pos hk] at hx
            cases hx
            subst hk
            exact ⟨c, h1, rfl, fun _ _ => rfl⟩
          · rw [if_neg hk] at hx
            exact allOf_holds hx
        · intro k x b ob l hx hb hl
          obtain ⟨rfl, rfl⟩ := hget b ob hb
          rw [if_pos rfl] at hl
          cases hl
          by_cases hk : k = a.block
          · rw [if_pos hk] at hx
            cases hx
            exact fun _ => ⟨_, rfl, Nat.le_refl _, by rw [encs_length]; exact Nat.le_refl _⟩
          · exact .of_ne (fun h => hk h.symm) _
        · intro b o h
          obtain ⟨rfl, rfl⟩ := hget b o h
          show 1 < 2
          omega
      · simp only [VR]
        refine ⟨_, if_pos trivial, a, rfl, hle, fun _ => ?_⟩
        cases a; simp_all [Loc.at]
      · intro ρ' h' w' hr hout hs hkeep
        have hB := hkeep .H _ _ rfl hne
        refine ⟨hs.os, hs.tape, hs.output, hs.size, fun k hk => ?_⟩
        by_cases hka : k = a.block
        · subst hka
          obtain ⟨c', h2, h3, h4⟩ := hr.frame a.block _ (if_pos rfl)
          obtain ⟨l', h5, c2, e2, ⟨z2, h6, _⟩, h7, _⟩ := hr.live .H _ hB
          have hl' : l' = ⟨a.block, a.off, 0⟩ := by
            have := hout .H (.inl (by show 1 < 2; omega))
            rw [this] at h5
            simpa using h5.symm
          subst hl'
          simp only at h6 h7
          rw [h2] at h6
          cases h6
          have : c' = c := by
            apply Array.ext_getElem?
            intro j
            by_cases hj : j < a.off ∨ a.off + ps.length * 7 ≤ j
            · exact h4 j hj
            · have hj2 : j - a.off < (encs ps).length := by rw [encs_length]; omega
              have hn : nth (encs ps) (j - a.off) = some (encs ps)[j - a.off] := by rw [nth_eq]; exact List.getElem?_eq_getElem hj2
              obtain ⟨u, h8, h9⟩ := h7 _ _ hn
              obtain ⟨y, h10, h11⟩ := hcell' _ _ hn
              rw [show a.off + (j - a.off) = j by omega] at h8 h10
              rw [h8, h10, (h11 _ _).1 h9]
          rw [h2, this, h1]
        · have hF : (if k = a.block then some (FObj.part a.off (a.off + ps.length * 7) c e z) else allOf W k) = some (.ex W.heap[k]) := by
            rw [if_neg hka]
            unfold allOf
            rw [Array.getElem?_eq_getElem hk]
            rfl
          have := hr.frame k _ hF
          rw [Array.getElem?_eq_getElem hk]
          exact this
end Go.Am

