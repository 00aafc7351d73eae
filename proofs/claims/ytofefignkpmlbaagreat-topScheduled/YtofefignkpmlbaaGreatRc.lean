/- An abstract machine for Go code and its soundness over the model; no condition of its own. Used by the proof that the law TopScheduled returns true at every input. -/
import Derived.Test.YtofefignkpmlbaaGreatAmH
import Derived.Test.YtofefignkpmlbaaGreatFo
import Derived.Test.YtofefignkpmlbaaGreatRb
/- A row of parts, as the abstract memory has it. -/
namespace Go.Am
set_option linter.unusedVariables false

structure PartV where
  kd : Nat
  a : Nat
  b : Nat
  c : Nat
  k : Int
  v : Int
  yes : Bool
def PartV.enc (p : PartV) : List AV := [.int .u8 (.ofNat p.kd), .int .u8 (.ofNat p.a), .int .u8 (.ofNat p.b), .int .u8 (.ofNat p.c), .int .i64 p.k, .int .i64 p.v, .bool p.yes]
def encs : List PartV → List AV
  | [] => []
  | p :: ps => p.enc ++ encs ps

theorem take_part : ∀ (ps : List PartV) (i : Nat) (hi : i < ps.length), takeX (dropX (encs ps) (i * 7)) 7 = some (ps[i]'hi).enc
  | [], i, hi => absurd hi (Nat.not_lt_zero _)
  | p :: ps, 0, _ => by
    simp only [encs, PartV.enc, Nat.zero_mul, drop_0, List.cons_append, List.nil_append, take_s, take_0, consO, List.getElem_cons_zero]
  | p :: ps, i + 1, hi => by
    have := take_part ps i (Nat.lt_of_succ_lt_succ hi)
    rw [show (i + 1) * 7 = i * 7 + 1 + 1 + 1 + 1 + 1 + 1 + 1 by omega]
    simp only [encs, PartV.enc, List.cons_append, List.nil_append, drop_s, List.getElem_cons_succ]
    exact this

/-- The row of things to be done, as it comes in. -/
def InSl (h : Heap) (sl : AV) (ps : List PartV) : Prop :=
  (sl = .nilslice ∧ ps = []) ∨ ∃ bl cap, sl = .slice bl 0 ps.length (.c cap) ∧ ps.length ≤ cap ∧ (ps ≠ [] → h.get bl = some (.cells (encs ps) none) ∧ bl.nat < h.next.nat)

end Go.Am

/- TopScheduled: what is done in a round. -/
namespace Go.Am
set_option linter.unusedSimpArgs false
set_option linter.unusedVariables false
set_option linter.unusedSectionVars false
set_option maxRecDepth 10000
set_option maxHeartbeats 2000000

def swS : ACode := (.seq (.region [⟨(some i68), none, .fieldAddr 0 (.t i13)⟩, ⟨(some i69), none, .load none (.t i68)⟩, ⟨(some i70), none, .bin .rem (.t i69) (.c (.int .u8 (.ofNat 6)))⟩]) (.block 3 (.seq (.region [⟨(some i102), none, .bin (.eq .int) (.t i70) (.c (.int .u8 (.ofNat 0)))⟩, ⟨(some i101), none, .move (.t i102)⟩]) (.cond (.t i101) (.seq (.region [⟨(some i104), none, .move (.t i6)⟩, ⟨(some i105), none, .call i6 [(.t i104)]⟩, ⟨(some i103), none, .move (.t i105)⟩, ⟨(some i106), none, .extract 0 (.t i103)⟩, ⟨(some i107), none, .extract 1 (.t i103)⟩, ⟨(some i18), none, .move (.t i106)⟩, ⟨(some i19), none, .move (.t i107)⟩]) (.seq (.seq (.region [⟨(some i108), none, .move (.t i8)⟩, ⟨(some i109), none, .move (.t i5)⟩, ⟨(some i110), none, .bin (.eq .int) (.t i108) (.t i109)⟩]) (.cond (.t i110) (.seq (.seq (.region [⟨(some i111), none, .move (.t i19)⟩, ⟨(some i112), none, .bin (.ne .int) (.t i111) (.c (.int .i64 (.ofNat 4)))⟩]) (.cond (.t i112) (.seq (.region [⟨(some i4), none, .move (.c (.bool false))⟩]) .ret) .skip)) (.exit 3)) .skip)) (.seq (.seq (.region [⟨(some i113), none, .move (.t i19)⟩, ⟨(some i114), none, .bin (.ne .int) (.t i113) (.c (.int .i64 (.ofNat 0)))⟩, ⟨(some i115), none, .move (.t i114)⟩, ⟨(some i116), (some (i115, false)), .move (.t i18)⟩, ⟨(some i117), (some (i115, false)), .move (.t i8)⟩, ⟨(some i118), (some (i115, false)), .bin (.ne .int) (.t i116) (.t i117)⟩, ⟨(some i119), none, .pick (.t i115) (.c (.bool true)) (.t i118)⟩]) (.cond (.t i119) (.seq (.region [⟨(some i4), none, .move (.c (.bool false))⟩]) .ret) .skip)) (.seq (.region [⟨(some i120), none, .move (.t i11)⟩, ⟨(some i121), none, .move (.t i11)⟩, ⟨(some i122), none, .lenSl (.t i121)⟩, ⟨(some i123), none, .move (.t i11)⟩, ⟨(some i124), none, .lenSl (.t i123)⟩, ⟨(some i125), none, .sliceSl 1 (.t i120) none (some (.t i122)) (some (.t i124))⟩, ⟨(some i126), none, .move (.t i8)⟩, ⟨(some i127), none, .buildSlice [(.int .i64 (.ofNat 0))] 1 [(0, 1, (.t i126))]⟩, ⟨(some i128), none, .append 1 (.t i125) (.t i127)⟩, ⟨(some i11), none, .move (.t i128)⟩]) (.region [⟨(some i129), none, .move (.t i8)⟩, ⟨(some i130), none, .bin .add (.t i129) (.c (.int .i64 (.ofNat 1)))⟩, ⟨(some i131), none, .move (.t i9)⟩, ⟨(some i132), none, .bin .add (.t i131) (.c (.int .i64 (.ofNat 1)))⟩, ⟨(some i8), none, .move (.t i130)⟩, ⟨(some i9), none, .move (.t i132)⟩]))))) (.seq (.region [⟨(some i134), none, .bin (.eq .int) (.t i70) (.c (.int .u8 (.ofNat 3)))⟩, ⟨(some i133), none, .move (.t i134)⟩]) (.cond (.t i133) (.seq (.region [⟨(some i135), none, .move (.t i17)⟩, ⟨(some i20), none, .move (.t i135)⟩]) (.seq (.seq (.region [⟨(some i136), none, .move (.t i10)⟩, ⟨(some i137), none, .bin (.eq .int) (.t i136) (.c (.int .i64 (.ofNat 0)))⟩]) (.cond (.t i137) (.region [⟨(some i20), none, .move (.c (.int .i64 (.ofNat 3)))⟩]) .skip)) (.seq (.seq (.region [⟨(some i138), none, .move (.t i6)⟩, ⟨(some i139), none, .move (.t i14)⟩, ⟨(some i140), none, .call i7 [(.t i138), (.t i139)]⟩, ⟨(some i141), none, .move (.t i20)⟩, ⟨(some i142), none, .bin (.ne .int) (.t i140) (.t i141)⟩]) (.cond (.t i142) (.seq (.region [⟨(some i4), none, .move (.c (.bool false))⟩]) .ret) .skip)) (.seq (.region [⟨(some i143), none, .move (.t i20)⟩, ⟨(some i144), none, .bin (.eq .int) (.t i143) (.c (.int .i64 (.ofNat 0)))⟩]) (.cond (.t i144) (.region [⟨(some i145), none, .move (.t i11)⟩, ⟨(some i146), none, .move (.t i11)⟩, ⟨(some i147), none, .lenSl (.t i146)⟩, ⟨(some i148), none, .move (.t i11)⟩, ⟨(some i149), none, .lenSl (.t i148)⟩, ⟨(some i150), none, .sliceSl 1 (.t i145) none (some (.t i147)) (some (.t i149))⟩, ⟨(some i151), none, .move (.t i14)⟩, ⟨(some i152), none, .buildSlice [(.int .i64 (.ofNat 0))] 1 [(0, 1, (.t i151))]⟩, ⟨(some i153), none, .append 1 (.t i150) (.t i152)⟩, ⟨(some i154), none, .move (.t i10)⟩, ⟨(some i155), none, .bin .sub (.t i154) (.c (.int .i64 (.ofNat 1)))⟩, ⟨(some i11), none, .move (.t i153)⟩, ⟨(some i10), none, .move (.t i155)⟩]) .skip))))) (.seq (.region [⟨(some i157), none, .bin (.eq .int) (.t i70) (.c (.int .u8 (.ofNat 4)))⟩, ⟨(some i156), none, .move (.t i157)⟩]) (.cond (.t i156) (.seq (.seq (.region [⟨(some i158), none, .move (.t i6)⟩, ⟨(some i159), none, .call i8 [(.t i158)]⟩, ⟨(some i21), none, .move (.t i159)⟩]) (.seq (.region [⟨(some i160), none, .move (.t i21)⟩, ⟨(some i161), none, .bin (.eq .int) (.t i160) (.c (.int .i64 (.ofNat 0)))⟩, ⟨(some i162), none, .move (.t i10)⟩, ⟨(some i163), none, .bin .gtr (.t i162) (.c (.int .i64 (.ofNat 0)))⟩, ⟨(some i164), none, .bin (.ne .bool) (.t i161) (.t i163)⟩, ⟨(some i165), none, .move (.t i164)⟩, ⟨(some i166), (some (i165, false)), .move (.t i10)⟩, ⟨(some i167), (some (i165, false)), .bin (.eq .int) (.t i166) (.c (.int .i64 (.ofNat 0)))⟩, ⟨(some i168), (some (i165, false)), .move (.t i167)⟩, ⟨(some i169), (some (i168, true)), .move (.t i21)⟩, ⟨(some i170), (some (i168, true)), .bin (.ne .int) (.t i169) (.c (.int .i64 (.ofNat 3)))⟩, ⟨(some i171), (some (i165, false)), .pick (.t i168) (.t i170) (.c (.bool false))⟩, ⟨(some i172), none, .pick (.t i165) (.c (.bool true)) (.t i171)⟩]) (.cond (.t i172) (.seq (.region [⟨(some i4), none, .move (.c (.bool false))⟩]) .ret) .skip))) (.region [⟨(some i173), none, .move (.t i10)⟩, ⟨(some i174), none, .bin .sub (.t i173) (.c (.int .i64 (.ofNat 1)))⟩, ⟨(some i175), none, .max (.t i174) (.c (.int .i64 (.ofNat 0)))⟩, ⟨(some i10), none, .move (.t i175)⟩])) (.seq (.region [⟨(some i177), none, .bin (.eq .int) (.t i70) (.c (.int .u8 (.ofNat 5)))⟩, ⟨(some i176), none, .move (.t i177)⟩]) (.cond (.t i176) (.seq (.seq (.region [⟨(some i178), none, .move (.t i10)⟩, ⟨(some i179), none, .bin .gtr (.t i178) (.c (.int .i64 (.ofNat 0)))⟩]) (.cond (.t i179) (.seq (.region [⟨(some i22), none, .move (.c (.int .i64 (.ofNat 0)))⟩]) (.seq (.seq (.region [⟨(some i180), none, .move (.t i9)⟩, ⟨(some i181), none, .bin (.eq .int) (.t i180) (.c (.int .i64 (.ofNat 0)))⟩]) (.cond (.t i181) (.region [⟨(some i22), none, .move (.c (.int .i64 (.ofNat 3)))⟩]) .skip)) (.seq (.seq (.region [⟨(some i182), none, .move (.t i6)⟩, ⟨(some i183), none, .call i9 [(.t i182)]⟩, ⟨(some i184), none, .move (.t i22)⟩, ⟨(some i185), none, .bin (.ne .int) (.t i183) (.t i184)⟩]) (.cond (.t i185) (.seq (.region [⟨(some i4), none, .move (.c (.bool false))⟩]) .ret) .skip)) (.seq (.seq (.region [⟨(some i186), none, .move (.t i22)⟩, ⟨(some i187), none, .bin (.eq .int) (.t i186) (.c (.int .i64 (.ofNat 0)))⟩]) (.cond (.t i187) (.region [⟨(some i188), none, .move (.t i10)⟩, ⟨(some i189), none, .bin .sub (.t i188) (.c (.int .i64 (.ofNat 1)))⟩, ⟨(some i190), none, .move (.t i9)⟩, ⟨(some i191), none, .bin .sub (.t i190) (.c (.int .i64 (.ofNat 1)))⟩, ⟨(some i10), none, .move (.t i189)⟩, ⟨(some i9), none, .move (.t i191)⟩]) .skip)) (.exit 3))))) .skip)) (.seq (.seq (.region [⟨(some i192), none, .move (.t i6)⟩, ⟨(some i193), none, .call i9 [(.t i192)]⟩, ⟨(some i194), none, .bin (.ne .int) (.t i193) (.c (.int .i64 (.ofNat 3)))⟩, ⟨(some i195), none, .move (.t i194)⟩, ⟨(some i196), (some (i195, false)), .move (.t i6)⟩, ⟨(some i197), (some (i195, false)), .move (.t i14)⟩, ⟨(some i198), (some (i195, false)), .call i10 [(.t i196), (.t i197)]⟩, ⟨(some i199), (some (i195, false)), .move (.t i17)⟩, ⟨(some i200), (some (i195, false)), .bin (.ne .int) (.t i198) (.t i199)⟩, ⟨(some i201), none, .pick (.t i195) (.c (.bool true)) (.t i200)⟩]) (.cond (.t i201) (.seq (.region [⟨(some i4), none, .move (.c (.bool false))⟩]) .ret) .skip)) (.seq (.region [⟨(some i202), none, .move (.t i17)⟩, ⟨(some i203), none, .bin (.eq .int) (.t i202) (.c (.int .i64 (.ofNat 0)))⟩]) (.cond (.t i203) (.region [⟨(some i204), none, .move (.t i11)⟩, ⟨(some i205), none, .move (.t i11)⟩, ⟨(some i206), none, .lenSl (.t i205)⟩, ⟨(some i207), none, .move (.t i11)⟩, ⟨(some i208), none, .lenSl (.t i207)⟩, ⟨(some i209), none, .sliceSl 1 (.t i204) none (some (.t i206)) (some (.t i208))⟩, ⟨(some i210), none, .move (.t i14)⟩, ⟨(some i211), none, .buildSlice [(.int .i64 (.ofNat 0))] 1 [(0, 1, (.t i210))]⟩, ⟨(some i212), none, .append 1 (.t i209) (.t i211)⟩, ⟨(some i11), none, .move (.t i212)⟩]) .skip)))) (.seq (.region [⟨(some i72), none, .move (.t i6)⟩, ⟨(some i73), none, .call i11 [(.t i72)]⟩, ⟨(some i71), none, .move (.t i73)⟩, ⟨(some i74), none, .extract 0 (.t i71)⟩, ⟨(some i75), none, .extract 1 (.t i71)⟩, ⟨(some i23), none, .move (.t i74)⟩, ⟨(some i24), none, .move (.t i75)⟩]) (.seq (.region [⟨(some i25), none, .move (.c (.int .i64 (.ofNat 0)))⟩, ⟨(some i26), none, .move (.c (.int .u8 (.ofNat 1)))⟩]) (.seq (.block 4 (.seq (.region [⟨(some i77), none, .move (.t i11)⟩, ⟨(some i78), none, .lenSl (.t i77)⟩, ⟨(some i79), none, .bin .gtr (.t i78) (.c (.int .i64 (.ofNat 0)))⟩, ⟨(some i76), none, .move (.t i79)⟩]) (.cond (.t i76) (.seq (.region [⟨(some i80), none, .move (.t i11)⟩, ⟨(some i81), none, .indexSl 1 (.t i80) (.c (.int .i64 (.ofNat 0)))⟩, ⟨(some i82), none, .load none (.t i81)⟩, ⟨(some i25), none, .move (.t i82)⟩]) (.region [⟨(some i83), none, .move (.t i11)⟩, ⟨(some i84), none, .sliceSl 1 (.t i83) (some (.c (.int .i64 (.ofNat 1)))) none none⟩, ⟨(some i85), none, .move (.t i10)⟩, ⟨(some i86), none, .bin .add (.t i85) (.c (.int .i64 (.ofNat 1)))⟩, ⟨(some i11), none, .move (.t i84)⟩, ⟨(some i10), none, .move (.t i86)⟩])) (.seq (.region [⟨(some i88), none, .move (.t i10)⟩, ⟨(some i89), none, .bin .gtr (.t i88) (.c (.int .i64 (.ofNat 0)))⟩, ⟨(some i87), none, .move (.t i89)⟩]) (.cond (.t i87) (.region [⟨(some i26), none, .move (.c (.int .u8 (.ofNat 2)))⟩]) (.seq (.region [⟨(some i91), none, .move (.t i9)⟩, ⟨(some i92), none, .bin (.eq .int) (.t i91) (.c (.int .i64 (.ofNat 0)))⟩, ⟨(some i90), none, .move (.t i92)⟩]) (.cond (.t i90) (.region [⟨(some i26), none, .move (.c (.int .u8 (.ofNat 3)))⟩]) (.region [⟨(some i26), none, .move (.c (.int .u8 (.ofNat 4)))⟩])))))))) (.seq (.region [⟨(some i93), none, .move (.t i23)⟩, ⟨(some i94), none, .move (.t i25)⟩, ⟨(some i95), none, .bin (.ne .int) (.t i93) (.t i94)⟩, ⟨(some i96), none, .move (.t i95)⟩, ⟨(some i97), (some (i96, false)), .move (.t i24)⟩, ⟨(some i98), (some (i96, false)), .move (.t i26)⟩, ⟨(some i99), (some (i96, false)), .bin (.ne .int) (.t i97) (.t i98)⟩, ⟨(some i100), none, .pick (.t i96) (.c (.bool true)) (.t i99)⟩]) (.cond (.t i100) (.seq (.region [⟨(some i4), none, .move (.c (.bool false))⟩]) .ret) .skip)))))))))))))))
def chkS : ACode := (.seq (.region [⟨(some i213), none, .move (.t i6)⟩, ⟨(some i214), none, .call i12 [(.t i213)]⟩, ⟨(some i215), none, .move (.t i8)⟩, ⟨(some i216), none, .bin (.ne .int) (.t i214) (.t i215)⟩, ⟨(some i217), none, .move (.t i216)⟩, ⟨(some i218), (some (i217, false)), .move (.t i6)⟩, ⟨(some i219), (some (i217, false)), .call i13 [(.t i218)]⟩, ⟨(some i220), (some (i217, false)), .move (.t i9)⟩, ⟨(some i221), (some (i217, false)), .bin (.ne .int) (.t i219) (.t i220)⟩, ⟨(some i222), none, .pick (.t i217) (.c (.bool true)) (.t i221)⟩, ⟨(some i223), none, .move (.t i222)⟩, ⟨(some i224), (some (i223, false)), .move (.t i6)⟩, ⟨(some i225), (some (i223, false)), .call i14 [(.t i224)]⟩, ⟨(some i226), (some (i223, false)), .move (.t i10)⟩, ⟨(some i227), (some (i223, false)), .bin (.ne .int) (.t i225) (.t i226)⟩, ⟨(some i228), none, .pick (.t i223) (.c (.bool true)) (.t i227)⟩, ⟨(some i229), none, .move (.t i228)⟩, ⟨(some i230), (some (i229, false)), .move (.t i6)⟩, ⟨(some i231), (some (i229, false)), .call i16 [(.t i230)]⟩, ⟨(some i232), (some (i229, false)), .move (.t i11)⟩, ⟨(some i233), (some (i229, false)), .call i15 [(.t i231), (.t i232)]⟩, ⟨(some i234), (some (i229, false)), .not (.t i233)⟩, ⟨(some i235), none, .pick (.t i229) (.c (.bool true)) (.t i234)⟩]) (.cond (.t i235) (.seq (.region [⟨(some i4), none, .move (.c (.bool false))⟩]) .ret) .skip))

/-- So many different small numbers are not more than that. -/
theorem few : ∀ (m : Nat) (l : List Nat), l.Nodup → (∀ x ∈ l, x < m) → l.length ≤ m
  | 0, [], _, _ => Nat.le_refl _
  | 0, x :: l, _, h => absurd (h x (List.mem_cons_self)) (Nat.not_lt_zero _)
  | m + 1, l, hn, h => by
    by_cases hm : m ∈ l
    · have h1 := few m (l.erase m) (hn.erase m) (fun x hx => by
        have h2 := (hn.mem_erase_iff).1 hx
        have := h x h2.2
        omega)
      rw [List.length_erase_of_mem hm] at h1
      omega
    · have := few m l hn (fun x hx => by
        have h1 := h x hx
        have : x ≠ m := fun e => hm (e ▸ hx)
        omega)
      omega

def il (rn : List Nat) : List Int := rn.map Int.ofNat
theorem il_length (rn) : (il rn).length = rn.length := List.length_map _
theorem il_mem {rn : List Nat} {t : Nat} : Int.ofNat t ∈ il rn ↔ t ∈ rn := by
  simp only [il, List.mem_map]
  exact ⟨fun ⟨a, h1, h2⟩ => by cases h2; exact h1, fun h => ⟨t, h, rfl⟩⟩
theorem il_app (a b : List Nat) : il (a ++ b) = il a ++ il b := List.map_append

structure LS (h : Heap) (bs bf bl : Pos) (inp : List AV) (n made live busy : Nat) (s : AV) (rn : List Nat) : Prop where
  S : SS h bs bf (il rn) n made live busy
  row : Row h (bs.nat + 1) s (il rn)
  nd : rn.Nodup
  lt : ∀ t ∈ rn, t < made
  le : made ≤ n ∧ n ≤ 8 ∧ live ≤ made
  inp : h.get bl = some (.cells inp none)
  nb : bl.nat < bf.nat
structure KS (e : PT AV) (bs : Pos) (n made live busy m i : Nat) (s s46 : AV) : Prop where
  e5 : PT.get i5 e = some (.int .i64 (.ofNat n))
  e6 : PT.get i6 e = some (.ptr bs 0)
  e8 : PT.get i8 e = some (.int .i64 (.ofNat made))
  e9 : PT.get i9 e = some (.int .i64 (.ofNat live))
  e10 : PT.get i10 e = some (.int .i64 (.ofNat busy))
  e11 : PT.get i11 e = some s
  e46 : PT.get i46 e = some s46
  e47 : PT.get i47 e = some (.int .i64 (.ofNat m))
  e48 : PT.get i48 e = some (.int .i64 (.ofNat i))

theorem LS.len {h bs bf bl inp n made live busy s rn} (H : LS h bs bf bl inp n made live busy s rn) : rn.length ≤ made := few _ _ H.nd H.lt
/-- Memory otherwise kept. -/
theorem LS.keep {h h' bs bf bl inp n made live busy s rn} (H : LS h bs bf bl inp n made live busy s rn) (k : Keep h h') : LS h' bs bf bl inp n made live busy s rn := by
  have nb := H.S.nb
  have nl := H.nb
  exact ⟨H.S.keep k, H.row.keep k.1 (fun p _ hp => k.2 p hp), H.nd, H.lt, H.le, k.get H.inp (by omega), H.nb⟩
/-- The scheduler otherwise, the row too. -/
theorem LS.step {h h' bs bf bl inp n made live busy s rn} (H : LS h bs bf bl inp n made live busy s rn) (k : Kb h h' bs bf) {made' live' busy' : Nat} {s' : AV} {rn' : List Nat} (S : SS h' bs bf (il rn') n made' live' busy') (R : Row h' (bs.nat + 1) s' (il rn'))
    (nd : rn'.Nodup) (lt : ∀ t ∈ rn', t < made') (le : made' ≤ n ∧ live' ≤ made') : LS h' bs bf bl inp n made' live' busy' s' rn' := by
  have nb := H.S.nb
  have nl := H.nb
  exact ⟨S, R, nd, lt, ⟨le.1, H.le.2.1, le.2⟩, (k.2 bl (by omega) (by omega) (by omega)).trans H.inp, H.nb⟩
theorem Row.kb {h h' : Heap} {bs bf : Pos} {s hs} (R : Row h (bs.nat + 1) s hs) (k : Kb h h' bs bf) (hb : bf.nat < bs.nat) : Row h' (bs.nat + 1) s hs :=
  R.keep k.1 (fun p h1 h2 => k.2 p h2 (by omega) (by omega))
theorem fresh_row (h : Heap) (lo : Nat) (o : AObj) (hs : List Int) (v : Int) (hlo : lo ≤ h.next.nat + 1) : Row ((h.new o).new (.cells (ints hs ++ [.int .i64 v]) (some 1))) lo (.slice h.next.succ 0 (hs.length + 1) (.o 1)) (hs ++ [v]) := by
  refine .inr ⟨h.next.succ, 0, ints hs ++ [.int .i64 v], some 1, by rw [Pos.nat_succ]; exact hlo, ?_, ?_, ?_, ?_⟩
  · simp only [next_new, Pos.nat_succ]; omega
  · rw [List.length_append, List.length_cons, List.length_nil]
  · exact get_new_eq _ _ (by simp only [next_new])
  · rw [drop_0, ints_app]
    exact take_all _ (by simp only [List.length_append, ints_length, List.length_cons, List.length_nil])

def ResS (F : Nat) (c : ACode) (e : PT AV) (h : Heap) (bs bf bl : Pos) (inp : List AV) (n m i b : Nat) (s46 : AV) : Prop :=
  ∃ e' h' rn' made' live' busy' s', evalCode (fo F) c ⟨e, [], none⟩ h = .ok (.normal, ⟨e', [], none⟩) h' ∧ LS h' bs bf bl inp n made' live' busy' s' rn' ∧ KS e' bs n made' live' busy' m i s' s46 ∧ busy' ≤ b + 1

section
variable (F : Nat) (e : PT AV) (h : Heap) (bs bf bl bx : Pos) (inp : List AV) (n made live busy m i : Nat) (s s46 : AV) (rn : List Nat) (kd t : Nat) (xa xb xc xk xv xy : AV)
  (H : LS h bs bf bl inp n made live busy s rn) (K : KS e bs n made live busy m i s s46) (hb : busy < 900) (ht : t < 9)
  (e13 : PT.get i13 e = some (.ptr bx 0)) (e14 : PT.get i14 e = some (.int .i64 (.ofNat t))) (hx : h.get bx = some (.cells [.int .u8 (.ofNat kd), xa, xb, xc, xk, xv, xy] none))
  (e17 : PT.get i17 e = some (.int .i64 (.ofNat (if made ≤ t then 2 else if t ∈ rn then 9 else 0))))
include H K hb ht e13 e14 hx e17

theorem sw_make (hk : kd % 6 = 0) : ResS (F + 97) swS e h bs bf bl inp n m i busy s46 := by
  obtain ⟨e5, e6, e8, e9, e10, e11, e46, e47, e48⟩ := K
  have hle := H.le
  have hlen := H.len
  have nb := H.S.nb
  unfold ResS
  generalize hX : evalCode (fo (F + 97)) swS ⟨e, [], none⟩ h = X
  by_cases hf : made = n
  · have hM := sched_make_full (F + 96) h bs bf (il rn) n made live busy H.S (by omega)
    simp (disch := first | ((try simp only [Pos.nat_succ, next_new, next_upd, next_del, ints_length, List.length_map, List.length_set, List.length_append, List.length_cons, List.length_nil]) <;> omega) | fail) only [ev0, ev1, ev2, ev3, ev4, ev5, ev6, ev7, ev8, ev9, Nat.reduceAdd, Nat.reduceMul, Nat.reduceSub, swS, e5, e6, e8, e9, e10, e11, e46, e47, e48, e13, hx, hk, hM] at hX
    subst hX
    refine ⟨_, _, rn, made, live, busy, s, rfl, H, ?_, by omega⟩
    constructor <;> simp only [gsb, Pos.beq, cond_t, cond_f, e5, e6, e8, e9, e10, e11, e46, e47, e48]
  · obtain ⟨h1, hM, S1, k1⟩ := sched_make F h bs bf (il rn) n made live busy H.S (by omega) (by omega) (by rw [il_length]; omega) (by omega) (fun hm => by have := H.lt _ (il_mem.1 hm); omega)
    have hil : (il rn).length ≤ 8 := by rw [il_length]; omega
    have k2 := (Keep.new h1 (.cells [.int .i64 (.ofNat made)] none)).trans (Keep.new _ (.cells (ints (il rn) ++ [.int .i64 (.ofNat made)]) (some 1)))
    have hn1 := k1.1
    have R := fresh_row h1 (bs.nat + 1) (.cells [.int .i64 (.ofNat made)] none) (il rn) (.ofNat made) (by omega)
    have hnd : (rn ++ [made]).Nodup := by
      rw [List.nodup_append]
      refine ⟨H.nd, by simp, ?_⟩
      intro a ha b hb
      have := H.lt a ha
      simp only [List.mem_singleton] at hb
      omega
    have hlt : ∀ x ∈ rn ++ [made], x < made + 1 := by
      intro x hx
      rcases List.mem_append.1 hx with h | h
      · have := H.lt x h; omega
      · simp only [List.mem_singleton] at h; omega
    have H2 := H.step (k1.trans (k2.kb bs bf)) (s' := .slice h1.next.succ 0 ((il rn).length + 1) (.o 1)) (rn' := rn ++ [made]) (made' := made + 1) (live' := live + 1) (busy' := busy) (by rw [il_app]; exact S1.keep k2) (by rw [il_app]; exact R) hnd hlt (by omega)
    rcases H.row with ⟨rfl, hnil⟩ | ⟨p, off, cs, sp, p1, p2, rfl, hp, htk⟩
    · simp only [hnil, ints, List.map_nil, List.nil_append, List.length_nil] at H2
      simp (disch := first | ((try simp only [Pos.nat_succ, next_new, next_upd, next_del, ints_length, List.length_map, List.length_set, List.length_append, List.length_cons, List.length_nil]) <;> omega) | fail) only [ev0, ev1, ev2, ev3, ev4, ev5, ev6, ev7, ev8, ev9, Nat.reduceAdd, Nat.reduceMul, Nat.reduceSub, swS, e5, e6, e8, e9, e10, e11, e46, e47, e48, e13, hx, hk, hM] at hX
      subst hX
      refine ⟨_, _, rn ++ [made], made + 1, live + 1, busy, _, rfl, H2, ?_, by omega⟩
      constructor <;> simp only [gsb, Pos.beq, cond_t, cond_f, e5, e6, e8, e9, e10, e11, e46, e47, e48, Nat.zero_add]
    · have hp' := (k1.2 p p2 (by omega) (by omega)).trans hp
      simp (disch := first | ((try simp only [Pos.nat_succ, next_new, next_upd, next_del, ints_length, List.length_map, List.length_set, List.length_append, List.length_cons, List.length_nil]) <;> omega) | fail) only [ev0, ev1, ev2, ev3, ev4, ev5, ev6, ev7, ev8, ev9, Nat.reduceAdd, Nat.reduceMul, Nat.reduceSub, swS, e5, e6, e8, e9, e10, e11, e46, e47, e48, e13, hx, hk, hM, hp', htk] at hX
      subst hX
      refine ⟨_, _, rn ++ [made], made + 1, live + 1, busy, _, rfl, H2, ?_, by omega⟩
      constructor <;> simp only [gsb, Pos.beq, cond_t, cond_f, e5, e6, e8, e9, e10, e11, e46, e47, e48]

theorem sw_back (hk : kd % 6 = 3) : ResS (F + 98) swS e h bs bf bl inp n m i busy s46 := by
  obtain ⟨e5, e6, e8, e9, e10, e11, e46, e47, e48⟩ := K
  have hle := H.le
  have hlen := H.len
  have nb := H.S.nb
  have hil : (il rn).length ≤ 8 := by rw [il_length]; omega
  unfold ResS
  generalize hX : evalCode (fo (F + 98)) swS ⟨e, [], none⟩ h = X
  by_cases hb0 : busy = 0
  · have hM := sched_back_none (F + 97) h bs bf (il rn) n made live busy H.S t hb0
    subst hb0
    by_cases h1 : made ≤ t
    · rw [if_pos h1] at e17
      simp (disch := first | ((try simp only [Pos.nat_succ, next_new, next_upd, next_del, ints_length, List.length_map, List.length_set, List.length_append, List.length_cons, List.length_nil]) <;> omega) | fail) only [ev0, ev1, ev2, ev3, ev4, ev5, ev6, ev7, ev8, ev9, Nat.reduceAdd, Nat.reduceMul, Nat.reduceSub, swS, e5, e6, e8, e9, e10, e11, e46, e47, e48, e13, e14, e17, hx, hk, hM] at hX
      subst hX
      refine ⟨_, _, rn, made, live, 0, s, rfl, H, ?_, by omega⟩
      constructor <;> simp only [gsb, Pos.beq, cond_t, cond_f, e5, e6, e8, e9, e10, e11, e46, e47, e48]
    · rw [if_neg h1] at e17
      by_cases h2 : t ∈ rn
      · rw [if_pos h2] at e17
        simp (disch := first | ((try simp only [Pos.nat_succ, next_new, next_upd, next_del, ints_length, List.length_map, List.length_set, List.length_append, List.length_cons, List.length_nil]) <;> omega) | fail) only [ev0, ev1, ev2, ev3, ev4, ev5, ev6, ev7, ev8, ev9, Nat.reduceAdd, Nat.reduceMul, Nat.reduceSub, swS, e5, e6, e8, e9, e10, e11, e46, e47, e48, e13, e14, e17, hx, hk, hM] at hX
        subst hX
        refine ⟨_, _, rn, made, live, 0, s, rfl, H, ?_, by omega⟩
        constructor <;> simp only [gsb, Pos.beq, cond_t, cond_f, e5, e6, e8, e9, e10, e11, e46, e47, e48]
      · rw [if_neg h2] at e17
        simp (disch := first | ((try simp only [Pos.nat_succ, next_new, next_upd, next_del, ints_length, List.length_map, List.length_set, List.length_append, List.length_cons, List.length_nil]) <;> omega) | fail) only [ev0, ev1, ev2, ev3, ev4, ev5, ev6, ev7, ev8, ev9, Nat.reduceAdd, Nat.reduceMul, Nat.reduceSub, swS, e5, e6, e8, e9, e10, e11, e46, e47, e48, e13, e14, e17, hx, hk, hM] at hX
        subst hX
        refine ⟨_, _, rn, made, live, 0, s, rfl, H, ?_, by omega⟩
        constructor <;> simp only [gsb, Pos.beq, cond_t, cond_f, e5, e6, e8, e9, e10, e11, e46, e47, e48]
  · by_cases h1 : made ≤ t
    · have hM := sched_back_arg (F + 96) h bs bf (il rn) n made live busy H.S t (by omega) h1
      rw [if_pos h1] at e17
      simp (disch := first | ((try simp only [Pos.nat_succ, next_new, next_upd, next_del, ints_length, List.length_map, List.length_set, List.length_append, List.length_cons, List.length_nil]) <;> omega) | fail) only [ev0, ev1, ev2, ev3, ev4, ev5, ev6, ev7, ev8, ev9, Nat.reduceAdd, Nat.reduceMul, Nat.reduceSub, swS, e5, e6, e8, e9, e10, e11, e46, e47, e48, e13, e14, e17, hx, hk, hM] at hX
      subst hX
      refine ⟨_, _, rn, made, live, busy, s, rfl, H, ?_, by omega⟩
      constructor <;> simp only [gsb, Pos.beq, cond_t, cond_f, e5, e6, e8, e9, e10, e11, e46, e47, e48]
    · rw [if_neg h1] at e17
      by_cases h2 : t ∈ rn
      · obtain ⟨g1, hM, S1, k1⟩ := sched_back_have F h bs bf (il rn) n made live busy H.S t (by omega) (by omega) (by omega) (by omega) (il_mem.2 h2)
        rw [if_pos h2] at e17
        have H2 := H.step k1 S1 (H.row.kb k1 nb.1) H.nd H.lt ⟨hle.1, hle.2.2⟩
        simp (disch := first | ((try simp only [Pos.nat_succ, next_new, next_upd, next_del, ints_length, List.length_map, List.length_set, List.length_append, List.length_cons, List.length_nil]) <;> omega) | fail) only [ev0, ev1, ev2, ev3, ev4, ev5, ev6, ev7, ev8, ev9, Nat.reduceAdd, Nat.reduceMul, Nat.reduceSub, swS, e5, e6, e8, e9, e10, e11, e46, e47, e48, e13, e14, e17, hx, hk, hM] at hX
        subst hX
        refine ⟨_, _, rn, made, live, busy, s, rfl, H2, ?_, by omega⟩
        constructor <;> simp only [gsb, Pos.beq, cond_t, cond_f, e5, e6, e8, e9, e10, e11, e46, e47, e48]
      · obtain ⟨h1', hM, S1, k1⟩ := sched_back F h bs bf (il rn) n made live busy H.S t (by omega) (by omega) (by omega) (by omega) (by omega) (fun q => h2 (il_mem.1 q))
        rw [if_neg h2] at e17
        have k2 := (Keep.new h1' (.cells [.int .i64 (.ofNat t)] none)).trans (Keep.new _ (.cells (ints (il rn) ++ [.int .i64 (.ofNat t)]) (some 1)))
        have hn1 := k1.1
        have R := fresh_row h1' (bs.nat + 1) (.cells [.int .i64 (.ofNat t)] none) (il rn) (.ofNat t) (by omega)
        have hnd : (rn ++ [t]).Nodup := by
          rw [List.nodup_append]
          refine ⟨H.nd, by simp, ?_⟩
          intro a ha b hb hab
          simp only [List.mem_singleton] at hb
          exact h2 (by rw [← hb, ← hab]; exact ha)
        have hlt : ∀ x ∈ rn ++ [t], x < made := by
          intro x hx
          rcases List.mem_append.1 hx with h | h
          · exact H.lt x h
          · simp only [List.mem_singleton] at h; omega
        have H2 := H.step (k1.trans (k2.kb bs bf)) (s' := .slice h1'.next.succ 0 ((il rn).length + 1) (.o 1)) (rn' := rn ++ [t]) (made' := made) (live' := live) (busy' := busy - 1) (by rw [il_app]; exact S1.keep k2) (by rw [il_app]; exact R) hnd hlt ⟨hle.1, hle.2.2⟩
        rcases H.row with ⟨rfl, hnil⟩ | ⟨p, off, cs, sp, p1, p2, rfl, hp, htk⟩
        · simp only [hnil, ints, List.map_nil, List.nil_append, List.length_nil] at H2
          simp (disch := first | ((try simp only [Pos.nat_succ, next_new, next_upd, next_del, ints_length, List.length_map, List.length_set, List.length_append, List.length_cons, List.length_nil]) <;> omega) | fail) only [ev0, ev1, ev2, ev3, ev4, ev5, ev6, ev7, ev8, ev9, Nat.reduceAdd, Nat.reduceMul, Nat.reduceSub, swS, e5, e6, e8, e9, e10, e11, e46, e47, e48, e13, e14, e17, hx, hk, hM] at hX
          subst hX
          refine ⟨_, _, rn ++ [t], made, live, busy - 1, _, rfl, H2, ?_, by omega⟩
          constructor <;> simp only [gsb, Pos.beq, cond_t, cond_f, e5, e6, e8, e9, e10, e11, e46, e47, e48, Nat.zero_add]
        · have hp' := (k1.2 p p2 (by omega) (by omega)).trans hp
          simp (disch := first | ((try simp only [Pos.nat_succ, next_new, next_upd, next_del, ints_length, List.length_map, List.length_set, List.length_append, List.length_cons, List.length_nil]) <;> omega) | fail) only [ev0, ev1, ev2, ev3, ev4, ev5, ev6, ev7, ev8, ev9, Nat.reduceAdd, Nat.reduceMul, Nat.reduceSub, swS, e5, e6, e8, e9, e10, e11, e46, e47, e48, e13, e14, e17, hx, hk, hM, hp', htk] at hX
          subst hX
          refine ⟨_, _, rn ++ [t], made, live, busy - 1, _, rfl, H2, ?_, by omega⟩
          constructor <;> simp only [gsb, Pos.beq, cond_t, cond_f, e5, e6, e8, e9, e10, e11, e46, e47, e48]

theorem sw_leave (hk : kd % 6 = 4) : ResS (F + 98) swS e h bs bf bl inp n m i busy s46 := by
  obtain ⟨e5, e6, e8, e9, e10, e11, e46, e47, e48⟩ := K
  have hle := H.le
  unfold ResS
  generalize hX : evalCode (fo (F + 98)) swS ⟨e, [], none⟩ h = X
  by_cases hb0 : busy = 0
  · have hM := leave_is (F + 96) h bs _ _ (less_none (F + 96) h bs bf (il rn) n made live busy H.S false hb0)
    subst hb0
    have q1 : Int.ofNat 0 - Int.ofNat 1 = Int.negSucc 0 := rfl
    have q2 : wrapI .i64 (Int.negSucc 0) = Int.negSucc 0 := rfl
    have q3 : ltI (Int.negSucc 0) (Int.ofNat 0) = true := rfl
    simp (disch := first | ((try simp only [Pos.nat_succ, next_new, next_upd, next_del, ints_length, List.length_map, List.length_set, List.length_append, List.length_cons, List.length_nil]) <;> omega) | fail) only [ev0, ev1, ev2, ev3, ev4, ev5, ev6, ev7, ev8, ev9, Nat.reduceAdd, Nat.reduceMul, Nat.reduceSub, swS, e5, e6, e8, e9, e10, e11, e46, e47, e48, e13, e14, hx, hk, hM, q1, q2, q3] at hX
    subst hX
    refine ⟨_, _, rn, made, live, 0, s, rfl, H, ?_, by omega⟩
    constructor <;> simp only [gsb, Pos.beq, cond_t, cond_f, e5, e6, e8, e9, e10, e11, e46, e47, e48]
  · have U := H.S.upd made live (busy - 1)
    have H2 := H.step U.2 U.1 (H.row.kb U.2 H.S.nb.1) H.nd H.lt ⟨hle.1, hle.2.2⟩
    have hM := leave_is (F + 96) h bs _ _ (less_leave (F + 96) h bs bf (il rn) n made live busy H.S (by omega) (by omega))
    simp (disch := first | ((try simp only [Pos.nat_succ, next_new, next_upd, next_del, ints_length, List.length_map, List.length_set, List.length_append, List.length_cons, List.length_nil]) <;> omega) | fail) only [ev0, ev1, ev2, ev3, ev4, ev5, ev6, ev7, ev8, ev9, Nat.reduceAdd, Nat.reduceMul, Nat.reduceSub, swS, e5, e6, e8, e9, e10, e11, e46, e47, e48, e13, e14, hx, hk, hM] at hX
    subst hX
    refine ⟨_, _, rn, made, live, busy - 1, s, rfl, H2, ?_, by omega⟩
    constructor <;> simp only [gsb, Pos.beq, cond_t, cond_f, e5, e6, e8, e9, e10, e11, e46, e47, e48]
end
end Go.Am

/- TopScheduled: what is done in a round, the rest; what is looked at. -/
namespace Go.Am
set_option linter.unusedSimpArgs false
set_option linter.unusedVariables false
set_option linter.unusedSectionVars false
set_option maxRecDepth 10000
set_option maxHeartbeats 2000000

section
variable (F : Nat) (e : PT AV) (h : Heap) (bs bf bl bx : Pos) (inp : List AV) (n made live busy m i : Nat) (s s46 : AV) (rn : List Nat) (kd t : Nat) (xa xb xc xk xv xy : AV)
  (H : LS h bs bf bl inp n made live busy s rn) (K : KS e bs n made live busy m i s s46) (hb : busy < 900) (ht : t < 9)
  (e13 : PT.get i13 e = some (.ptr bx 0)) (e14 : PT.get i14 e = some (.int .i64 (.ofNat t))) (hx : h.get bx = some (.cells [.int .u8 (.ofNat kd), xa, xb, xc, xk, xv, xy] none))
  (e17 : PT.get i17 e = some (.int .i64 (.ofNat (if made ≤ t then 2 else if t ∈ rn then 9 else 0))))
include H K hb ht e13 e14 hx e17

theorem sw_end (hk : kd % 6 = 5) : ResS (F + 98) swS e h bs bf bl inp n m i busy s46 := by
  obtain ⟨e5, e6, e8, e9, e10, e11, e46, e47, e48⟩ := K
  have hle := H.le
  have hlen := H.len
  have nb := H.S.nb
  have hil : (il rn).length ≤ 8 := by rw [il_length]; omega
  unfold ResS
  generalize hX : evalCode (fo (F + 98)) swS ⟨e, [], none⟩ h = X
  by_cases hb0 : busy = 0
  · have hM := end_is (F + 96) h bs _ _ (less_none (F + 96) h bs bf (il rn) n made live busy H.S true hb0)
    subst hb0
    by_cases h1 : made ≤ t
    · have hP := sched_push_arg (F + 97) h bs bf (il rn) n made live 0 H.S t h1
      rw [if_pos h1] at e17
      simp (disch := first | ((try simp only [Pos.nat_succ, next_new, next_upd, next_del, ints_length, List.length_map, List.length_set, List.length_append, List.length_cons, List.length_nil]) <;> omega) | fail) only [ev0, ev1, ev2, ev3, ev4, ev5, ev6, ev7, ev8, ev9, Nat.reduceAdd, Nat.reduceMul, Nat.reduceSub, swS, e5, e6, e8, e9, e10, e11, e46, e47, e48, e13, e14, e17, hx, hk, hM, hP] at hX
      subst hX
      refine ⟨_, _, rn, made, live, 0, s, rfl, H, ?_, by omega⟩
      constructor <;> simp only [gsb, Pos.beq, cond_t, cond_f, e5, e6, e8, e9, e10, e11, e46, e47, e48]
    · rw [if_neg h1] at e17
      by_cases h2 : t ∈ rn
      · obtain ⟨g1, hP, S1, k1⟩ := sched_push_have (F + 1) h bs bf (il rn) n made live 0 H.S t (by omega) (by omega) (by omega) (il_mem.2 h2)
        rw [if_pos h2] at e17
        have H2 := H.step k1 S1 (H.row.kb k1 nb.1) H.nd H.lt ⟨hle.1, hle.2.2⟩
        simp (disch := first | ((try simp only [Pos.nat_succ, next_new, next_upd, next_del, ints_length, List.length_map, List.length_set, List.length_append, List.length_cons, List.length_nil]) <;> omega) | fail) only [ev0, ev1, ev2, ev3, ev4, ev5, ev6, ev7, ev8, ev9, Nat.reduceAdd, Nat.reduceMul, Nat.reduceSub, swS, e5, e6, e8, e9, e10, e11, e46, e47, e48, e13, e14, e17, hx, hk, hM, hP] at hX
        subst hX
        refine ⟨_, _, rn, made, live, 0, s, rfl, H2, ?_, by omega⟩
        constructor <;> simp only [gsb, Pos.beq, cond_t, cond_f, e5, e6, e8, e9, e10, e11, e46, e47, e48]
      · obtain ⟨h1', hP, S1, k1⟩ := sched_push (F + 1) h bs bf (il rn) n made live 0 H.S t (by omega) (by omega) (by omega) (fun q => h2 (il_mem.1 q))
        rw [if_neg h2] at e17
        have k2 := (Keep.new h1' (.cells [.int .i64 (.ofNat t)] none)).trans (Keep.new _ (.cells (ints (il rn) ++ [.int .i64 (.ofNat t)]) (some 1)))
        have hn1 := k1.1
        have R := fresh_row h1' (bs.nat + 1) (.cells [.int .i64 (.ofNat t)] none) (il rn) (.ofNat t) (by omega)
        have hnd : (rn ++ [t]).Nodup := by
          rw [List.nodup_append]
          refine ⟨H.nd, by simp, ?_⟩
          intro a ha b hb hab
          simp only [List.mem_singleton] at hb
          exact h2 (by rw [← hb, ← hab]; exact ha)
        have hlt : ∀ x ∈ rn ++ [t], x < made := by
          intro x hx
          rcases List.mem_append.1 hx with h | h
          · exact H.lt x h
          · simp only [List.mem_singleton] at h; omega
        have H2 := H.step (k1.trans (k2.kb bs bf)) (s' := .slice h1'.next.succ 0 ((il rn).length + 1) (.o 1)) (rn' := rn ++ [t]) (made' := made) (live' := live) (busy' := 0) (by rw [il_app]; exact S1.keep k2) (by rw [il_app]; exact R) hnd hlt ⟨hle.1, hle.2.2⟩
        rcases H.row with ⟨rfl, hnil⟩ | ⟨p, off, cs, sp, p1, p2, rfl, hp, htk⟩
        · simp only [hnil, ints, List.map_nil, List.nil_append, List.length_nil] at H2
          simp (disch := first | ((try simp only [Pos.nat_succ, next_new, next_upd, next_del, ints_length, List.length_map, List.length_set, List.length_append, List.length_cons, List.length_nil]) <;> omega) | fail) only [ev0, ev1, ev2, ev3, ev4, ev5, ev6, ev7, ev8, ev9, Nat.reduceAdd, Nat.reduceMul, Nat.reduceSub, swS, e5, e6, e8, e9, e10, e11, e46, e47, e48, e13, e14, e17, hx, hk, hM, hP] at hX
          subst hX
          refine ⟨_, _, rn ++ [t], made, live, 0, _, rfl, H2, ?_, by omega⟩
          constructor <;> simp only [gsb, Pos.beq, cond_t, cond_f, e5, e6, e8, e9, e10, e11, e46, e47, e48, Nat.zero_add]
        · have hp' := (k1.2 p p2 (by omega) (by omega)).trans hp
          simp (disch := first | ((try simp only [Pos.nat_succ, next_new, next_upd, next_del, ints_length, List.length_map, List.length_set, List.length_append, List.length_cons, List.length_nil]) <;> omega) | fail) only [ev0, ev1, ev2, ev3, ev4, ev5, ev6, ev7, ev8, ev9, Nat.reduceAdd, Nat.reduceMul, Nat.reduceSub, swS, e5, e6, e8, e9, e10, e11, e46, e47, e48, e13, e14, e17, hx, hk, hM, hP, hp', htk] at hX
          subst hX
          refine ⟨_, _, rn ++ [t], made, live, 0, _, rfl, H2, ?_, by omega⟩
          constructor <;> simp only [gsb, Pos.beq, cond_t, cond_f, e5, e6, e8, e9, e10, e11, e46, e47, e48]
  · by_cases hl0 : live = 0
    · have hM := end_is (F + 96) h bs _ _ (less_live (F + 96) h bs bf (il rn) n made live busy H.S hl0)
      subst hl0
      simp (disch := first | ((try simp only [Pos.nat_succ, next_new, next_upd, next_del, ints_length, List.length_map, List.length_set, List.length_append, List.length_cons, List.length_nil]) <;> omega) | fail) only [ev0, ev1, ev2, ev3, ev4, ev5, ev6, ev7, ev8, ev9, Nat.reduceAdd, Nat.reduceMul, Nat.reduceSub, swS, e5, e6, e8, e9, e10, e11, e46, e47, e48, e13, e14, e17, hx, hk, hM] at hX
      subst hX
      refine ⟨_, _, rn, made, 0, busy, s, rfl, H, ?_, by omega⟩
      constructor <;> simp only [gsb, Pos.beq, cond_t, cond_f, e5, e6, e8, e9, e10, e11, e46, e47, e48]
    · have U := H.S.upd made (live - 1) (busy - 1)
      have H2 := H.step U.2 U.1 (H.row.kb U.2 H.S.nb.1) H.nd H.lt ⟨hle.1, by omega⟩
      have hM := end_is (F + 96) h bs _ _ (less_end (F + 96) h bs bf (il rn) n made live busy H.S (by omega) (by omega) (by omega) (by omega))
      simp (disch := first | ((try simp only [Pos.nat_succ, next_new, next_upd, next_del, ints_length, List.length_map, List.length_set, List.length_append, List.length_cons, List.length_nil]) <;> omega) | fail) only [ev0, ev1, ev2, ev3, ev4, ev5, ev6, ev7, ev8, ev9, Nat.reduceAdd, Nat.reduceMul, Nat.reduceSub, swS, e5, e6, e8, e9, e10, e11, e46, e47, e48, e13, e14, e17, hx, hk, hM] at hX
      subst hX
      refine ⟨_, _, rn, made, live - 1, busy - 1, s, rfl, H2, ?_, by omega⟩
      constructor <;> simp only [gsb, Pos.beq, cond_t, cond_f, e5, e6, e8, e9, e10, e11, e46, e47, e48]

theorem sw_next (hk0 : kd % 6 ≠ 0) (hk3 : kd % 6 ≠ 3) (hk4 : kd % 6 ≠ 4) (hk5 : kd % 6 ≠ 5) : ResS (F + 98) swS e h bs bf bl inp n m i busy s46 := by
  obtain ⟨e5, e6, e8, e9, e10, e11, e46, e47, e48⟩ := K
  have hle := H.le
  have hlen := H.len
  have nb := H.S.nb
  have hrl := H.row.isInts.len
  unfold ResS
  generalize hX : evalCode (fo (F + 98)) swS ⟨e, [], none⟩ h = X
  cases rn with
  | nil =>
    obtain ⟨w, h1, hM, hw, S1, k1⟩ := next_none (F + 95) h bs bf (il []) n made live busy H.S rfl
    have H2 := H.step k1 S1 (H.row.kb k1 nb.1) H.nd H.lt ⟨hle.1, hle.2.2⟩
    have hrl : lenOfSlice s = some 0 := hrl
    by_cases hb0 : 0 < busy
    · rw [if_pos hb0] at hw
      subst hw
      simp (disch := first | ((try simp only [Pos.nat_succ, next_new, next_upd, next_del, ints_length, List.length_map, List.length_set, List.length_append, List.length_cons, List.length_nil]) <;> omega) | fail) only [ev0, ev1, ev2, ev3, ev4, ev5, ev6, ev7, ev8, ev9, Nat.reduceAdd, Nat.reduceMul, Nat.reduceSub, swS, e5, e6, e8, e9, e10, e11, e46, e47, e48, e13, e14, e17, hx, hk0, hk3, hk4, hk5, hM, hrl] at hX
      subst hX
      refine ⟨_, _, [], made, live, busy, s, rfl, H2, ?_, by omega⟩
      constructor <;> simp only [gsb, Pos.beq, cond_t, cond_f, e5, e6, e8, e9, e10, e11, e46, e47, e48]
    · rw [if_neg hb0] at hw
      by_cases hl0 : live = 0
      · rw [if_pos hl0] at hw
        subst hw
        subst hl0
        simp (disch := first | ((try simp only [Pos.nat_succ, next_new, next_upd, next_del, ints_length, List.length_map, List.length_set, List.length_append, List.length_cons, List.length_nil]) <;> omega) | fail) only [ev0, ev1, ev2, ev3, ev4, ev5, ev6, ev7, ev8, ev9, Nat.reduceAdd, Nat.reduceMul, Nat.reduceSub, swS, e5, e6, e8, e9, e10, e11, e46, e47, e48, e13, e14, e17, hx, hk0, hk3, hk4, hk5, hM, hrl] at hX
        subst hX
        refine ⟨_, _, [], made, 0, busy, s, rfl, H2, ?_, by omega⟩
        constructor <;> simp only [gsb, Pos.beq, cond_t, cond_f, e5, e6, e8, e9, e10, e11, e46, e47, e48]
      · rw [if_neg hl0] at hw
        subst hw
        simp (disch := first | ((try simp only [Pos.nat_succ, next_new, next_upd, next_del, ints_length, List.length_map, List.length_set, List.length_append, List.length_cons, List.length_nil]) <;> omega) | fail) only [ev0, ev1, ev2, ev3, ev4, ev5, ev6, ev7, ev8, ev9, Nat.reduceAdd, Nat.reduceMul, Nat.reduceSub, swS, e5, e6, e8, e9, e10, e11, e46, e47, e48, e13, e14, e17, hx, hk0, hk3, hk4, hk5, hM, hrl] at hX
        subst hX
        refine ⟨_, _, [], made, live, busy, s, rfl, H2, ?_, by omega⟩
        constructor <;> simp only [gsb, Pos.beq, cond_t, cond_f, e5, e6, e8, e9, e10, e11, e46, e47, e48]
  | cons x tl =>
    have hil : (il (x :: tl)).length < 90 := by rw [il_length]; omega
    obtain ⟨h1, hM, S1, k1⟩ := next_some (F + 95) h bs bf (il (x :: tl)) n made live busy H.S (.ofNat x) (il tl) rfl hil (by omega)
    rcases H.row with ⟨_, hnil⟩ | ⟨p, off, cs, sp, p1, p2, rfl, hp, htk⟩
    · cases hnil
    have hp' := (k1.2 p p2 (by omega) (by omega)).trans hp
    have hc : il (x :: tl) = .ofNat x :: il tl := rfl
    rw [hc, List.length_cons] at htk hrl e11
    have hld := IsInts.load (vs := .ofNat x :: il tl) (by rw [List.length_cons]; exact htk) (i := 0) (by simp)
    have htl := take_tail (show takeX (dropX cs off) ((il tl).length + 1) = some (AV.int .i64 (.ofNat x) :: ints (il tl)) from htk)
    simp only [Nat.add_zero, List.getD_cons_zero] at hld
    have hn1 := k1.1
    have R2 : Row h1 (bs.nat + 1) (.slice p (off + 1) (il tl).length (.o 1)) (il tl) := .inr ⟨p, off + 1, cs, sp, p1, by omega, rfl, hp', htl⟩
    have H2 := H.step k1 S1 R2 (List.nodup_cons.1 H.nd).2 (fun y hy => H.lt y (List.mem_cons_of_mem _ hy)) ⟨hle.1, hle.2.2⟩
    simp (disch := first | ((try simp only [Pos.nat_succ, next_new, next_upd, next_del, ints_length, List.length_map, List.length_set, List.length_append, List.length_cons, List.length_nil]) <;> omega) | fail) only [ev0, ev1, ev2, ev3, ev4, ev5, ev6, ev7, ev8, ev9, Nat.reduceAdd, Nat.reduceMul, Nat.reduceSub, swS, e5, e6, e8, e9, e10, e11, e46, e47, e48, e13, e14, e17, hx, hk0, hk3, hk4, hk5, hM, hp', hld, hc, List.length_cons] at hX
    subst hX
    refine ⟨_, _, tl, made, live, busy + 1, _, rfl, H2, ?_, by omega⟩
    constructor <;> simp only [gsb, Pos.beq, cond_t, cond_f, e5, e6, e8, e9, e10, e11, e46, e47, e48]
end

theorem chk_sched (F : Nat) (e : PT AV) (h : Heap) (bs bf bl : Pos) (inp : List AV) (n made live busy m i : Nat) (s s46 : AV) (rn : List Nat) (H : LS h bs bf bl inp n made live busy s rn) (K : KS e bs n made live busy m i s s46) :
    ResS (F + 98) chkS e h bs bf bl inp n m i busy s46 := by
  obtain ⟨e5, e6, e8, e9, e10, e11, e46, e47, e48⟩ := K
  have hle := H.le
  have hlen := H.len
  have hil : (il rn).length ≤ 8 := by rw [il_length]; omega
  have c1 := sched_made (F + 97) h bs bf (il rn) n made live busy H.S
  have c2 := sched_live (F + 97) h bs bf (il rn) n made live busy H.S
  have c3 := sched_busy (F + 97) h bs bf (il rn) n made live busy H.S
  obtain ⟨sl, h1, c4, hA, hK⟩ := sched_list (F + 3) h bs bf (il rn) n made live busy H.S (by omega)
  have H2 := H.keep hK
  have c5 := same_ints_true (F + 96 - (il rn).length) h1 sl s (il rn) hA.isInts H2.row.isInts (by omega)
  rw [show F + 96 - (il rn).length + (il rn).length + 2 = F + 98 by omega] at c5
  unfold ResS
  generalize hX : evalCode (fo (F + 98)) chkS ⟨e, [], none⟩ h = X
  simp (disch := first | ((try simp only [Pos.nat_succ, next_new, next_upd, next_del, ints_length, List.length_map, List.length_set, List.length_append, List.length_cons, List.length_nil]) <;> omega) | fail) only [ev0, ev1, ev2, ev3, ev4, ev5, ev6, ev7, ev8, ev9, Nat.reduceAdd, Nat.reduceMul, Nat.reduceSub, chkS, e5, e6, e8, e9, e10, e11, e46, e47, e48, c1, c2, c3, c4, c5] at hX
  subst hX
  refine ⟨_, _, rn, made, live, busy, s, rfl, H2, ?_, by omega⟩
  constructor <;> simp only [gsb, Pos.beq, cond_t, cond_f, e5, e6, e8, e9, e10, e11, e46, e47, e48]
end Go.Am

/- TopScheduled on the abstract machine. -/
namespace Go.Am
set_option linter.unusedSimpArgs false
set_option linter.unusedVariables false
set_option maxRecDepth 10000
set_option maxHeartbeats 2000000

def lpS : ACode := (.seq (.region [⟨(some i49), none, .bin .lss (.t i48) (.t i47)⟩]) (.seq (.cond (.t i49) .skip (.exit 0)) (.seq (.block 1 (.seq (.region [⟨(some i50), none, .indexSl 7 (.t i46) (.t i48)⟩, ⟨(some i51), none, .load (some 7) (.t i50)⟩, ⟨(some i13), none, .alloc [(.int .u8 (.ofNat 0)), (.int .u8 (.ofNat 0)), (.int .u8 (.ofNat 0)), (.int .u8 (.ofNat 0)), (.int .i64 (.ofNat 0)), (.int .i64 (.ofNat 0)), (.bool false)]⟩, ⟨none, none, .store (some 7) (.t i13) (.t i51)⟩]) (.seq (.region [⟨(some i52), none, .fieldAddr 1 (.t i13)⟩, ⟨(some i53), none, .load none (.t i52)⟩, ⟨(some i54), none, .bin .rem (.t i53) (.c (.int .u8 (.ofNat 9)))⟩, ⟨(some i55), none, .conv .i64 (.t i54)⟩, ⟨(some i14), none, .move (.t i55)⟩]) (.seq (.region [⟨(some i57), none, .move (.t i11)⟩, ⟨(some i58), none, .move (.t i14)⟩, ⟨(some i59), none, .call i5 [(.t i57), (.t i58)]⟩, ⟨(some i56), none, .move (.t i59)⟩, ⟨(some i60), none, .extract 0 (.t i56)⟩, ⟨(some i61), none, .extract 1 (.t i56)⟩, ⟨(some i15), none, .move (.t i60)⟩, ⟨(some i16), none, .move (.t i61)⟩]) (.seq (.region [⟨(some i17), none, .move (.c (.int .i64 (.ofNat 0)))⟩]) (.seq (.block 2 (.seq (.region [⟨(some i63), none, .move (.t i14)⟩, ⟨(some i64), none, .move (.t i8)⟩, ⟨(some i65), none, .bin .geq (.t i63) (.t i64)⟩, ⟨(some i62), none, .move (.t i65)⟩]) (.cond (.t i62) (.region [⟨(some i17), none, .move (.c (.int .i64 (.ofNat 2)))⟩]) (.seq (.region [⟨(some i67), none, .move (.t i16)⟩, ⟨(some i66), none, .move (.t i67)⟩]) (.cond (.t i66) (.region [⟨(some i17), none, .move (.c (.int .i64 (.ofNat 9)))⟩]) .skip))))) (.seq swS chkS))))))) (.region [⟨(some i236), none, .bin .add (.t i48) (.c (.int .i64 (.ofNat 1)))⟩, ⟨(some i48), none, .move (.t i236)⟩]))))
theorem afS_eq : af3 = ⟨[.tmp i4], (.seq (.region [⟨(some i4), none, .move (.c (.bool false))⟩]) (.seq (.region [⟨(some i27), none, .move (.t i0)⟩, ⟨(some i28), none, .bin .rem (.t i27) (.c (.int .u8 (.ofNat 8)))⟩, ⟨(some i29), none, .conv .i64 (.t i28)⟩, ⟨(some i30), none, .bin .add (.c (.int .i64 (.ofNat 1))) (.t i29)⟩, ⟨(some i5), none, .move (.t i30)⟩]) (.seq (.region [⟨(some i32), none, .move (.t i5)⟩, ⟨(some i33), none, .call i4 [(.t i32)]⟩, ⟨(some i31), none, .move (.t i33)⟩, ⟨(some i34), none, .extract 0 (.t i31)⟩, ⟨(some i35), none, .extract 1 (.t i31)⟩, ⟨(some i6), none, .move (.t i34)⟩, ⟨(some i7), none, .move (.t i35)⟩]) (.seq (.seq (.region [⟨(some i36), none, .move (.t i7)⟩, ⟨(some i37), none, .bin (.ne .int) (.t i36) (.c (.int .i64 (.ofNat 0)))⟩, ⟨(some i38), none, .move (.t i37)⟩, ⟨(some i39), (some (i38, false)), .move (.t i6)⟩, ⟨(some i40), (some (i38, false)), .bin (.eq .ptr) (.t i39) (.c .nilptr)⟩, ⟨(some i41), none, .pick (.t i38) (.c (.bool true)) (.t i40)⟩]) (.cond (.t i41) (.seq (.region [⟨(some i4), none, .move (.c (.bool false))⟩]) .ret) .skip)) (.seq (.region [⟨(some i8), none, .move (.c (.int .i64 (.ofNat 0)))⟩, ⟨(some i9), none, .move (.c (.int .i64 (.ofNat 0)))⟩, ⟨(some i10), none, .move (.c (.int .i64 (.ofNat 0)))⟩]) (.seq (.region [⟨(some i11), none, .move (.c .nilslice)⟩]) (.seq (.seq (.region [⟨(some i42), none, .move (.t i1)⟩, ⟨(some i43), none, .move (.t i1)⟩, ⟨(some i44), none, .lenSl (.t i43)⟩, ⟨(some i45), none, .min (.t i44) (.c (.int .i64 (.ofNat 80)))⟩, ⟨(some i46), none, .sliceSl 7 (.t i42) none (some (.t i45)) none⟩, ⟨(some i47), none, .lenSl (.t i46)⟩, ⟨(some i48), none, .move (.c (.int .i64 (.ofNat 0)))⟩]) (.block 0 (.loop lpS))) (.seq (.region [⟨(some i237), none, .call i17 []⟩, ⟨(some i4), none, .move (.t i237)⟩]) .ret))))))))⟩ := rfl

theorem sched_loop (F : Nat) (bs bf bl : Pos) (ps : List PartV) (n m : Nat) (cap : Cap) (hm : m ≤ ps.length) (hm80 : m ≤ 80) :
    ∀ (mm i : Nat) (e : PT AV) (h : Heap) (made live busy : Nat) (rn : List Nat) (s : AV), m = i + mm → busy ≤ 2 * i → LS h bs bf bl (encs ps) n made live busy s rn → KS e bs n made live busy m i s (.slice bl 0 m cap) →
      ∃ e' h', evalCode (fo (F + mm + 98)) (.loop lpS) ⟨e, [], none⟩ h = .ok (.exit 0, ⟨e', [], none⟩) h' ∧ h'.get bl = some (.cells (encs ps) none)
  | 0, i, e, h, made, live, busy, rn, s, hi, hbi, H, K => by
    obtain ⟨e5, e6, e8, e9, e10, e11, e46, e47, e48⟩ := K
    generalize hX : evalCode (fo (F + 0 + 98)) (.loop lpS) ⟨e, [], none⟩ h = X
    rw [c_loop] at hX
    simp (disch := first | ((try simp only [Pos.nat_succ, next_new, next_upd, next_del, ints_length, List.length_map, List.length_set, List.length_append, List.length_cons, List.length_nil]) <;> omega) | fail) only [ev0, ev1, ev2, ev3, ev4, ev5, ev6, ev7, ev8, ev9, Nat.reduceAdd, Nat.reduceMul, Nat.reduceSub, lpS, e5, e6, e8, e9, e10, e11, e46, e47, e48] at hX
    subst hX
    exact ⟨_, _, rfl, H.inp⟩
  | mm + 1, i, e, h, made, live, busy, rn, s, hi, hbi, H, K => by
    have K0 := K
    obtain ⟨e5, e6, e8, e9, e10, e11, e46, e47, e48⟩ := K
    have hx := take_part ps i (by omega)
    have hin := H.inp
    have hle := H.le
    have hlen := H.len
    have nb := H.S.nb
    have nl := H.nb
    have hil : (il rn).length ≤ 8 := by rw [il_length]; omega
    have ih := fun e h made live busy rn s => sched_loop F bs bf bl ps n m cap hm hm80 mm (i + 1) e h made live busy rn s (by omega)
    have kn : Keep h (h.new (.cells (PartV.enc (ps[i]'(by omega))) none)) := Keep.new _ _
    obtain ⟨s', hW, cW, kW⟩ := without7 (F + mm + 97 - (il rn).length) (h.new (.cells (PartV.enc (ps[i]'(by omega))) none)) (bs.nat + 1) s (il rn) (.ofNat ((ps[i]'(by omega)).a % 9)) (H.keep kn).row (by omega)
    rw [show F + mm + 97 - (il rn).length + (il rn).length + 2 = F + mm + 98 + 1 by omega] at cW
    have cX := cW
    simp only [PartV.enc] at cX
    have H1 := H.keep (kn.trans kW)
    have hx1 : hW.get h.next = some (.cells (PartV.enc (ps[i]'(by omega))) none) := kW.get (get_new_same _ _) (by rw [next_new, Pos.nat_succ]; omega)
    have ha9 : (ps[i]'(by omega)).a % 9 < 9 := Nat.mod_lt _ (by omega)
    generalize hX : evalCode (fo (F + (mm + 1) + 98)) (.loop lpS) ⟨e, [], none⟩ h = X
    rw [show F + (mm + 1) + 98 = F + mm + 98 + 1 by omega] at hX
    rw [c_loop] at hX
    simp only [lpS] at hX ih
    have fin : ∀ (tk : Nat), (if made ≤ (ps[i]'(by omega)).a % 9 then 2 else if (ps[i]'(by omega)).a % 9 ∈ rn then 9 else 0) = tk →
        ∀ e2, KS e2 bs n made live busy m i s (.slice bl 0 m cap) → PT.get i13 e2 = some (.ptr h.next 0) → PT.get i14 e2 = some (.int .i64 (.ofNat ((ps[i]'(by omega)).a % 9))) → PT.get i17 e2 = some (.int .i64 (.ofNat tk)) →
          ResS (F + mm + 99) swS e2 hW bs bf bl (encs ps) n m i busy (.slice bl 0 m cap) := by
      intro tk htk e2 K2 g13 g14 g17
      rw [← htk] at g17
      by_cases k0 : (ps[i]'(by omega)).kd % 6 = 0
      · exact sw_make (F + mm + 2) e2 hW bs bf bl h.next (encs ps) n made live busy m i s _ rn _ _ _ _ _ _ _ _ H1 K2 (by omega) ha9 g13 g14 hx1 g17 k0
      · by_cases k3 : (ps[i]'(by omega)).kd % 6 = 3
        · exact sw_back (F + mm + 1) e2 hW bs bf bl h.next (encs ps) n made live busy m i s _ rn _ _ _ _ _ _ _ _ H1 K2 (by omega) ha9 g13 g14 hx1 g17 k3
        · by_cases k4 : (ps[i]'(by omega)).kd % 6 = 4
          · exact sw_leave (F + mm + 1) e2 hW bs bf bl h.next (encs ps) n made live busy m i s _ rn _ _ _ _ _ _ _ _ H1 K2 (by omega) ha9 g13 g14 hx1 g17 k4
          · by_cases k5 : (ps[i]'(by omega)).kd % 6 = 5
            · exact sw_end (F + mm + 1) e2 hW bs bf bl h.next (encs ps) n made live busy m i s _ rn _ _ _ _ _ _ _ _ H1 K2 (by omega) ha9 g13 g14 hx1 g17 k5
            · exact sw_next (F + mm + 1) e2 hW bs bf bl h.next (encs ps) n made live busy m i s _ rn _ _ _ _ _ _ _ _ H1 K2 (by omega) ha9 g13 g14 hx1 g17 k0 k3 k4 k5
    by_cases c1 : made ≤ (ps[i]'(by omega)).a % 9
    · simp (disch := first | ((try simp only [Pos.nat_succ, next_new, next_upd, next_del, ints_length, List.length_map, List.length_set, List.length_append, List.length_cons, List.length_nil]) <;> omega) | fail) only [ev0, ev1, ev2, ev3, ev4, ev5, ev6, ev7, ev8, ev9, Nat.reduceAdd, Nat.reduceMul, Nat.reduceSub, e5, e6, e8, e9, e10, e11, e46, e47, e48, hin, hx, PartV.enc, cX] at hX
      generalize hE : evalCode _ swS _ _ = Z at hX
      obtain ⟨e1, h1, rn1, made1, live1, busy1, s1, rfl, L1, K1, b1⟩ : ∃ e1 h1 rn1 made1 live1 busy1 s1, Z = .ok (.normal, ⟨e1, [], none⟩) h1 ∧ LS h1 bs bf bl (encs ps) n made1 live1 busy1 s1 rn1 ∧ KS e1 bs n made1 live1 busy1 m i s1 (.slice bl 0 m cap) ∧ busy1 ≤ busy + 1 := by
        rw [← hE]
        refine fin 2 (if_pos c1) _ ?_ ?_ ?_ ?_
        · constructor <;> simp only [gsb, Pos.beq, cond_t, cond_f, e5, e6, e8, e9, e10, e11, e46, e47, e48]
        · simp only [gsb, Pos.beq, cond_t, cond_f]
        · simp only [gsb, Pos.beq, cond_t, cond_f]
        · simp only [gsb, Pos.beq, cond_t, cond_f]
      simp (disch := first | ((try simp only [Pos.nat_succ, next_new, next_upd, next_del, ints_length, List.length_map, List.length_set, List.length_append, List.length_cons, List.length_nil]) <;> omega) | fail) only [ev0, ev1, ev2, ev3, ev4, ev5, ev6, ev7, ev8, ev9, Nat.reduceAdd, Nat.reduceMul, Nat.reduceSub] at hX
      obtain ⟨e2, h2, rn2, made2, live2, busy2, s2, q1, L2, K2, b2⟩ := chk_sched (F + mm + 1) e1 h1 bs bf bl (encs ps) n made1 live1 busy1 m i s1 _ rn1 L1 K1
      obtain ⟨e5, e6, e8, e9, e10, e11, e46, e47, e48⟩ := K2
      simp (disch := first | ((try simp only [Pos.nat_succ, next_new, next_upd, next_del, ints_length, List.length_map, List.length_set, List.length_append, List.length_cons, List.length_nil]) <;> omega) | fail) only [ev0, ev1, ev2, ev3, ev4, ev5, ev6, ev7, ev8, ev9, Nat.reduceAdd, Nat.reduceMul, Nat.reduceSub, q1, e48, fo_loop] at hX
      subst hX
      refine ih _ _ _ _ _ _ _ (by omega) L2 ?_
      constructor <;> simp only [gsb, Pos.beq, cond_t, cond_f, e5, e6, e8, e9, e10, e11, e46, e47, e48]
    · by_cases c2 : (ps[i]'(by omega)).a % 9 ∈ rn
      · have hd : decide (Int.ofNat ((ps[i]'(by omega)).a % 9) ∈ il rn) = true := decide_eq_true (il_mem.2 c2)
        simp (disch := first | ((try simp only [Pos.nat_succ, next_new, next_upd, next_del, ints_length, List.length_map, List.length_set, List.length_append, List.length_cons, List.length_nil]) <;> omega) | fail) only [ev0, ev1, ev2, ev3, ev4, ev5, ev6, ev7, ev8, ev9, Nat.reduceAdd, Nat.reduceMul, Nat.reduceSub, e5, e6, e8, e9, e10, e11, e46, e47, e48, hin, hx, PartV.enc, cX, hd] at hX
        generalize hE : evalCode _ swS _ _ = Z at hX
        obtain ⟨e1, h1, rn1, made1, live1, busy1, s1, rfl, L1, K1, b1⟩ : ∃ e1 h1 rn1 made1 live1 busy1 s1, Z = .ok (.normal, ⟨e1, [], none⟩) h1 ∧ LS h1 bs bf bl (encs ps) n made1 live1 busy1 s1 rn1 ∧ KS e1 bs n made1 live1 busy1 m i s1 (.slice bl 0 m cap) ∧ busy1 ≤ busy + 1 := by
          rw [← hE]
          refine fin 9 (by rw [if_neg c1, if_pos c2]) _ ?_ ?_ ?_ ?_
          · constructor <;> simp only [gsb, Pos.beq, cond_t, cond_f, e5, e6, e8, e9, e10, e11, e46, e47, e48]
          · simp only [gsb, Pos.beq, cond_t, cond_f]
          · simp only [gsb, Pos.beq, cond_t, cond_f]
          · simp only [gsb, Pos.beq, cond_t, cond_f]
        simp (disch := first | ((try simp only [Pos.nat_succ, next_new, next_upd, next_del, ints_length, List.length_map, List.length_set, List.length_append, List.length_cons, List.length_nil]) <;> omega) | fail) only [ev0, ev1, ev2, ev3, ev4, ev5, ev6, ev7, ev8, ev9, Nat.reduceAdd, Nat.reduceMul, Nat.reduceSub] at hX
        obtain ⟨e2, h2, rn2, made2, live2, busy2, s2, q1, L2, K2, b2⟩ := chk_sched (F + mm + 1) e1 h1 bs bf bl (encs ps) n made1 live1 busy1 m i s1 _ rn1 L1 K1
        obtain ⟨e5, e6, e8, e9, e10, e11, e46, e47, e48⟩ := K2
        simp (disch := first | ((try simp only [Pos.nat_succ, next_new, next_upd, next_del, ints_length, List.length_map, List.length_set, List.length_append, List.length_cons, List.length_nil]) <;> omega) | fail) only [ev0, ev1, ev2, ev3, ev4, ev5, ev6, ev7, ev8, ev9, Nat.reduceAdd, Nat.reduceMul, Nat.reduceSub, q1, e48, fo_loop] at hX
        subst hX
        refine ih _ _ _ _ _ _ _ (by omega) L2 ?_
        constructor <;> simp only [gsb, Pos.beq, cond_t, cond_f, e5, e6, e8, e9, e10, e11, e46, e47, e48]
      · have hd : decide (Int.ofNat ((ps[i]'(by omega)).a % 9) ∈ il rn) = false := decide_eq_false (fun q => c2 (il_mem.1 q))
        simp (disch := first | ((try simp only [Pos.nat_succ, next_new, next_upd, next_del, ints_length, List.length_map, List.length_set, List.length_append, List.length_cons, List.length_nil]) <;> omega) | fail) only [ev0, ev1, ev2, ev3, ev4, ev5, ev6, ev7, ev8, ev9, Nat.reduceAdd, Nat.reduceMul, Nat.reduceSub, e5, e6, e8, e9, e10, e11, e46, e47, e48, hin, hx, PartV.enc, cX, hd] at hX
        generalize hE : evalCode _ swS _ _ = Z at hX
        obtain ⟨e1, h1, rn1, made1, live1, busy1, s1, rfl, L1, K1, b1⟩ : ∃ e1 h1 rn1 made1 live1 busy1 s1, Z = .ok (.normal, ⟨e1, [], none⟩) h1 ∧ LS h1 bs bf bl (encs ps) n made1 live1 busy1 s1 rn1 ∧ KS e1 bs n made1 live1 busy1 m i s1 (.slice bl 0 m cap) ∧ busy1 ≤ busy + 1 := by
          rw [← hE]
          refine fin 0 (by rw [if_neg c1, if_neg c2]) _ ?_ ?_ ?_ ?_
          · constructor <;> simp only [gsb, Pos.beq, cond_t, cond_f, e5, e6, e8, e9, e10, e11, e46, e47, e48]
          · simp only [gsb, Pos.beq, cond_t, cond_f]
          · simp only [gsb, Pos.beq, cond_t, cond_f]
          · simp only [gsb, Pos.beq, cond_t, cond_f]
        simp (disch := first | ((try simp only [Pos.nat_succ, next_new, next_upd, next_del, ints_length, List.length_map, List.length_set, List.length_append, List.length_cons, List.length_nil]) <;> omega) | fail) only [ev0, ev1, ev2, ev3, ev4, ev5, ev6, ev7, ev8, ev9, Nat.reduceAdd, Nat.reduceMul, Nat.reduceSub] at hX
        obtain ⟨e2, h2, rn2, made2, live2, busy2, s2, q1, L2, K2, b2⟩ := chk_sched (F + mm + 1) e1 h1 bs bf bl (encs ps) n made1 live1 busy1 m i s1 _ rn1 L1 K1
        obtain ⟨e5, e6, e8, e9, e10, e11, e46, e47, e48⟩ := K2
        simp (disch := first | ((try simp only [Pos.nat_succ, next_new, next_upd, next_del, ints_length, List.length_map, List.length_set, List.length_append, List.length_cons, List.length_nil]) <;> omega) | fail) only [ev0, ev1, ev2, ev3, ev4, ev5, ev6, ev7, ev8, ev9, Nat.reduceAdd, Nat.reduceMul, Nat.reduceSub, q1, e48, fo_loop] at hX
        subst hX
        refine ih _ _ _ _ _ _ _ (by omega) L2 ?_
        constructor <;> simp only [gsb, Pos.beq, cond_t, cond_f, e5, e6, e8, e9, e10, e11, e46, e47, e48]

theorem sched_loop0 (G : Nat) (e : PT AV) (h : Heap) (q47 : PT.get i47 e = some (.int .i64 (.ofNat 0))) (q48 : PT.get i48 e = some (.int .i64 (.ofNat 0))) :
    ∃ e', evalCode (fo G) (.loop lpS) ⟨e, [], none⟩ h = .ok (.exit 0, ⟨e', [], none⟩) h := by
  generalize hX : evalCode (fo G) (.loop lpS) ⟨e, [], none⟩ h = X
  rw [c_loop] at hX
  simp (disch := first | ((try simp only [Pos.nat_succ, next_new, next_upd, next_del, ints_length, List.length_map, List.length_set, List.length_append, List.length_cons, List.length_nil]) <;> omega) | fail) only [ev0, ev1, ev2, ev3, ev4, ev5, ev6, ev7, ev8, ev9, Nat.reduceAdd, Nat.reduceMul, Nat.reduceSub, lpS, q47, q48] at hX
  subst hX
  exact ⟨_, rfl⟩

theorem scheduled_ok (F : Nat) (h : Heap) (most : Nat) (sl : AV) (ps : List PartV) (H : InSl h sl ps) : ∃ h', (fo (F + 200)).call i3 [.int .u8 (.ofNat most), sl] h = .ok (.bool true) h' ∧ (∀ bl l c, sl = .slice bl 0 l c → ps ≠ [] → h'.get bl = some (.cells (encs ps) none)) := by
  have at3 : PT.get i3 tbl = some af3 := rfl
  have hm8 : most % 8 < 8 := Nat.mod_lt _ (by omega)
  obtain ⟨g, hN, S, hK, hnx⟩ := sched_new (F + 197) h (1 + most % 8) (by omega) (by omega)
  generalize hX : (fo (F + 200)).call i3 [.int .u8 (.ofNat most), sl] h = X
  rw [fo_call (f := i3) rfl] at hX
  by_cases h0 : ps = []
  · subst h0
    rcases H with ⟨rfl, _⟩ | ⟨bl, cap, rfl, hc, hb⟩
    · simp (disch := first | ((try simp only [Pos.nat_succ, next_new, next_upd, next_del, ints_length, List.length_map, List.length_set, List.length_append, List.length_cons, List.length_nil]) <;> omega) | fail) only [ev0, ev1, ev2, ev3, ev4, ev5, ev6, ev7, ev8, ev9, Nat.reduceAdd, Nat.reduceMul, Nat.reduceSub, at3, afS_eq, hN] at hX
      generalize hE : evalCode _ (.loop _) _ _ = Z at hX
      obtain ⟨e', rfl⟩ : ∃ e', Z = .ok (.exit 0, ⟨e', [], none⟩) g := by
        rw [← hE]
        refine sched_loop0 _ _ _ ?_ ?_ <;> simp only [get_H, get_O, get_I]
      simp (disch := first | ((try simp only [Pos.nat_succ, next_new, next_upd, next_del, ints_length, List.length_map, List.length_set, List.length_append, List.length_cons, List.length_nil]) <;> omega) | fail) only [ev0, ev1, ev2, ev3, ev4, ev5, ev6, ev7, ev8, ev9, Nat.reduceAdd, Nat.reduceMul, Nat.reduceSub, fo_done] at hX
      subst hX
      exact ⟨_, rfl, fun _ _ _ _ h => absurd rfl h⟩
    · simp (disch := first | ((try simp only [Pos.nat_succ, next_new, next_upd, next_del, ints_length, List.length_map, List.length_set, List.length_append, List.length_cons, List.length_nil]) <;> omega) | fail) only [ev0, ev1, ev2, ev3, ev4, ev5, ev6, ev7, ev8, ev9, Nat.reduceAdd, Nat.reduceMul, Nat.reduceSub, at3, afS_eq, hN, List.length_nil] at hX
      generalize hE : evalCode _ (.loop _) _ _ = Z at hX
      obtain ⟨e', rfl⟩ : ∃ e', Z = .ok (.exit 0, ⟨e', [], none⟩) g := by
        rw [← hE]
        refine sched_loop0 _ _ _ ?_ ?_ <;> simp only [get_H, get_O, get_I]
      simp (disch := first | ((try simp only [Pos.nat_succ, next_new, next_upd, next_del, ints_length, List.length_map, List.length_set, List.length_append, List.length_cons, List.length_nil]) <;> omega) | fail) only [ev0, ev1, ev2, ev3, ev4, ev5, ev6, ev7, ev8, ev9, Nat.reduceAdd, Nat.reduceMul, Nat.reduceSub, fo_done] at hX
      subst hX
      exact ⟨_, rfl, fun _ _ _ _ h => absurd rfl h⟩
  · rcases H with ⟨_, rfl⟩ | ⟨bl, cap, rfl, hc, hb⟩
    · exact absurd rfl h0
    obtain ⟨hb1, hb2⟩ := hb h0
    have hLS : LS g h.next.succ h.next bl (encs ps) (1 + most % 8) 0 0 0 .nilslice [] :=
      ⟨S, .inl ⟨rfl, rfl⟩, List.nodup_nil, fun t ht => absurd ht (List.not_mem_nil), by omega, hK.get hb1 hb2, hb2⟩
    by_cases hl : ps.length ≤ 80
    · simp (disch := first | ((try simp only [Pos.nat_succ, next_new, next_upd, next_del, ints_length, List.length_map, List.length_set, List.length_append, List.length_cons, List.length_nil]) <;> omega) | fail) only [ev0, ev1, ev2, ev3, ev4, ev5, ev6, ev7, ev8, ev9, Nat.reduceAdd, Nat.reduceMul, Nat.reduceSub, at3, afS_eq, hN] at hX
      generalize hE : evalCode _ (.loop _) _ _ = Z at hX
      obtain ⟨e', h', rfl, hB⟩ : ∃ e' h', Z = .ok (.exit 0, ⟨e', [], none⟩) h' ∧ h'.get bl = some (.cells (encs ps) none) := by
        rw [← hE]
        have key := fun e K => sched_loop (F + 101 - ps.length) h.next.succ h.next bl ps (1 + most % 8) ps.length (.c cap) (Nat.le_refl _) hl ps.length 0 e _ 0 0 0 [] .nilslice (by omega) (by omega) hLS K
        rw [show F + 101 - ps.length + ps.length + 98 = F + 199 by omega] at key
        refine key _ ?_
        constructor <;> simp only [get_H, get_O, get_I]
      simp (disch := first | ((try simp only [Pos.nat_succ, next_new, next_upd, next_del, ints_length, List.length_map, List.length_set, List.length_append, List.length_cons, List.length_nil]) <;> omega) | fail) only [ev0, ev1, ev2, ev3, ev4, ev5, ev6, ev7, ev8, ev9, Nat.reduceAdd, Nat.reduceMul, Nat.reduceSub, fo_done] at hX
      subst hX
      exact ⟨_, rfl, fun _ _ _ h _ => by cases h; exact hB⟩
    · simp (disch := first | ((try simp only [Pos.nat_succ, next_new, next_upd, next_del, ints_length, List.length_map, List.length_set, List.length_append, List.length_cons, List.length_nil]) <;> omega) | fail) only [ev0, ev1, ev2, ev3, ev4, ev5, ev6, ev7, ev8, ev9, Nat.reduceAdd, Nat.reduceMul, Nat.reduceSub, at3, afS_eq, hN] at hX
      generalize hE : evalCode _ (.loop _) _ _ = Z at hX
      obtain ⟨e', h', rfl, hB⟩ : ∃ e' h', Z = .ok (.exit 0, ⟨e', [], none⟩) h' ∧ h'.get bl = some (.cells (encs ps) none) := by
        rw [← hE]
        have key := fun e K => sched_loop (F + 21) h.next.succ h.next bl ps (1 + most % 8) 80 (.c cap) (by omega) (Nat.le_refl _) 80 0 e _ 0 0 0 [] .nilslice (by omega) (by omega) hLS K
        rw [show F + 21 + 80 + 98 = F + 199 by omega] at key
        refine key _ ?_
        constructor <;> simp only [get_H, get_O, get_I]
      simp (disch := first | ((try simp only [Pos.nat_succ, next_new, next_upd, next_del, ints_length, List.length_map, List.length_set, List.length_append, List.length_cons, List.length_nil]) <;> omega) | fail) only [ev0, ev1, ev2, ev3, ev4, ev5, ev6, ev7, ev8, ev9, Nat.reduceAdd, Nat.reduceMul, Nat.reduceSub, fo_done] at hX
      subst hX
      exact ⟨_, rfl, fun _ _ _ h _ => by cases h; exact hB⟩
end Go.Am

