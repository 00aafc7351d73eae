/- An abstract machine for Go code and its soundness over the model; no condition of its own. Used by the proof that the law TopScheduled returns true at every input. -/
import Derived.Test.YtofefignkpmlbaaGreatFnPos
namespace Go.Am
open Go.Proofs
def af3 : AFunc := ⟨[.tmp i4], (.seq (.region [⟨(some i4), none, .move (.c (.bool false))⟩])
  (.seq (.region [⟨(some i27), none, .move (.t i0)⟩, ⟨(some i28), none, .bin .rem (.t i27) (.c (.int .u8 (.ofNat 8)))⟩, ⟨(some i29), none, .conv .i64 (.t i28)⟩, ⟨(some i30), none, .bin .add (.c (.int .i64 (.ofNat 1))) (.t i29)⟩, ⟨(some i5), none, .move (.t i30)⟩])
  (.seq (.region [⟨(some i32), none, .move (.t i5)⟩, ⟨(some i33), none, .call i4 [(.t i32)]⟩, ⟨(some i31), none, .move (.t i33)⟩, ⟨(some i34), none, .extract 0 (.t i31)⟩, ⟨(some i35), none, .extract 1 (.t i31)⟩, ⟨(some i6), none, .move (.t i34)⟩, ⟨(some i7), none, .move (.t i35)⟩])
  (.seq (.seq (.region [⟨(some i36), none, .move (.t i7)⟩, ⟨(some i37), none, .bin (.ne .int) (.t i36) (.c (.int .i64 (.ofNat 0)))⟩, ⟨(some i38), none, .move (.t i37)⟩, ⟨(some i39), (some (i38, false)), .move (.t i6)⟩, ⟨(some i40), (some (i38, false)), .bin (.eq .ptr) (.t i39) (.c .nilptr)⟩, ⟨(some i41), none, .pick (.t i38) (.c (.bool true)) (.t i40)⟩])
  (.cond (.t i41) (.seq (.region [⟨(some i4), none, .move (.c (.bool false))⟩])
  .ret)
  .skip))
  (.seq (.region [⟨(some i8), none, .move (.c (.int .i64 (.ofNat 0)))⟩, ⟨(some i9), none, .move (.c (.int .i64 (.ofNat 0)))⟩, ⟨(some i10), none, .move (.c (.int .i64 (.ofNat 0)))⟩])
  (.seq (.region [⟨(some i11), none, .move (.c .nilslice)⟩])
  (.seq (.seq (.region [⟨(some i42), none, .move (.t i1)⟩, ⟨(some i43), none, .move (.t i1)⟩, ⟨(some i44), none, .lenSl (.t i43)⟩, ⟨(some i45), none, .min (.t i44) (.c (.int .i64 (.ofNat 80)))⟩, ⟨(some i46), none, .sliceSl 7 (.t i42) none (some (.t i45)) none⟩, ⟨(some i47), none, .lenSl (.t i46)⟩, ⟨(some i48), none, .move (.c (.int .i64 (.ofNat 0)))⟩])
  (.block 0 (.loop (.seq (.region [⟨(some i49), none, .bin .lss (.t i48) (.t i47)⟩])
  (.seq (.cond (.t i49) .skip
  (.exit 0))
  (.seq (.block 1 (.seq (.region [⟨(some i50), none, .indexSl 7 (.t i46) (.t i48)⟩, ⟨(some i51), none, .load (some 7) (.t i50)⟩, ⟨(some i13), none, .alloc [(.int .u8 (.ofNat 0)), (.int .u8 (.ofNat 0)), (.int .u8 (.ofNat 0)), (.int .u8 (.ofNat 0)), (.int .i64 (.ofNat 0)), (.int .i64 (.ofNat 0)), (.bool false)]⟩, ⟨none, none, .store (some 7) (.t i13) (.t i51)⟩])
  (.seq (.region [⟨(some i52), none, .fieldAddr 1 (.t i13)⟩, ⟨(some i53), none, .load none (.t i52)⟩, ⟨(some i54), none, .bin .rem (.t i53) (.c (.int .u8 (.ofNat 9)))⟩, ⟨(some i55), none, .conv .i64 (.t i54)⟩, ⟨(some i14), none, .move (.t i55)⟩])
  (.seq (.region [⟨(some i57), none, .move (.t i11)⟩, ⟨(some i58), none, .move (.t i14)⟩, ⟨(some i59), none, .call i5 [(.t i57), (.t i58)]⟩, ⟨(some i56), none, .move (.t i59)⟩, ⟨(some i60), none, .extract 0 (.t i56)⟩, ⟨(some i61), none, .extract 1 (.t i56)⟩, ⟨(some i15), none, .move (.t i60)⟩, ⟨(some i16), none, .move (.t i61)⟩])
  (.seq (.region [⟨(some i17), none, .move (.c (.int .i64 (.ofNat 0)))⟩])
  (.seq (.block 2 (.seq (.region [⟨(some i63), none, .move (.t i14)⟩, ⟨(some i64), none, .move (.t i8)⟩, ⟨(some i65), none, .bin .geq (.t i63) (.t i64)⟩, ⟨(some i62), none, .move (.t i65)⟩])
  (.cond (.t i62) (.region [⟨(some i17), none, .move (.c (.int .i64 (.ofNat 2)))⟩])
  (.seq (.region [⟨(some i67), none, .move (.t i16)⟩, ⟨(some i66), none, .move (.t i67)⟩])
  (.cond (.t i66) (.region [⟨(some i17), none, .move (.c (.int .i64 (.ofNat 9)))⟩])
  .skip)))))
  (.seq (.seq (.region [⟨(some i68), none, .fieldAddr 0 (.t i13)⟩, ⟨(some i69), none, .load none (.t i68)⟩, ⟨(some i70), none, .bin .rem (.t i69) (.c (.int .u8 (.ofNat 6)))⟩])
  (.block 3 (.seq (.region [⟨(some i102), none, .bin (.eq .int) (.t i70) (.c (.int .u8 (.ofNat 0)))⟩, ⟨(some i101), none, .move (.t i102)⟩])
  (.cond (.t i101) (.seq (.region [⟨(some i104), none, .move (.t i6)⟩, ⟨(some i105), none, .call i6 [(.t i104)]⟩, ⟨(some i103), none, .move (.t i105)⟩, ⟨(some i106), none, .extract 0 (.t i103)⟩, ⟨(some i107), none, .extract 1 (.t i103)⟩, ⟨(some i18), none, .move (.t i106)⟩, ⟨(some i19), none, .move (.t i107)⟩])
  (.seq (.seq (.region [⟨(some i108), none, .move (.t i8)⟩, ⟨(some i109), none, .move (.t i5)⟩, ⟨(some i110), none, .bin (.eq .int) (.t i108) (.t i109)⟩])
  (.cond (.t i110) (.seq (.seq (.region [⟨(some i111), none, .move (.t i19)⟩, ⟨(some i112), none, .bin (.ne .int) (.t i111) (.c (.int .i64 (.ofNat 4)))⟩])
  (.cond (.t i112) (.seq (.region [⟨(some i4), none, .move (.c (.bool false))⟩])
  .ret)
  .skip))
  (.exit 3))
  .skip))
  (.seq (.seq (.region [⟨(some i113), none, .move (.t i19)⟩, ⟨(some i114), none, .bin (.ne .int) (.t i113) (.c (.int .i64 (.ofNat 0)))⟩, ⟨(some i115), none, .move (.t i114)⟩, ⟨(some i116), (some (i115, false)), .move (.t i18)⟩, ⟨(some i117), (some (i115, false)), .move (.t i8)⟩, ⟨(some i118), (some (i115, false)), .bin (.ne .int) (.t i116) (.t i117)⟩, ⟨(some i119), none, .pick (.t i115) (.c (.bool true)) (.t i118)⟩])
  (.cond (.t i119) (.seq (.region [⟨(some i4), none, .move (.c (.bool false))⟩])
  .ret)
  .skip))
  (.seq (.region [⟨(some i120), none, .move (.t i11)⟩, ⟨(some i121), none, .move (.t i11)⟩, ⟨(some i122), none, .lenSl (.t i121)⟩, ⟨(some i123), none, .move (.t i11)⟩, ⟨(some i124), none, .lenSl (.t i123)⟩, ⟨(some i125), none, .sliceSl 1 (.t i120) none (some (.t i122)) (some (.t i124))⟩, ⟨(some i126), none, .move (.t i8)⟩, ⟨(some i127), none, .buildSlice [(.int .i64 (.ofNat 0))] 1 [(0, 1, (.t i126))]⟩, ⟨(some i128), none, .append 1 (.t i125) (.t i127)⟩, ⟨(some i11), none, .move (.t i128)⟩])
  (.region [⟨(some i129), none, .move (.t i8)⟩, ⟨(some i130), none, .bin .add (.t i129) (.c (.int .i64 (.ofNat 1)))⟩, ⟨(some i131), none, .move (.t i9)⟩, ⟨(some i132), none, .bin .add (.t i131) (.c (.int .i64 (.ofNat 1)))⟩, ⟨(some i8), none, .move (.t i130)⟩, ⟨(some i9), none, .move (.t i132)⟩])))))
  (.seq (.region [⟨(some i134), none, .bin (.eq .int) (.t i70) (.c (.int .u8 (.ofNat 3)))⟩, ⟨(some i133), none, .move (.t i134)⟩])
  (.cond (.t i133) (.seq (.region [⟨(some i135), none, .move (.t i17)⟩, ⟨(some i20), none, .move (.t i135)⟩])
  (.seq (.seq (.region [⟨(some i136), none, .move (.t i10)⟩, ⟨(some i137), none, .bin (.eq .int) (.t i136) (.c (.int .i64 (.ofNat 0)))⟩])
  (.cond (.t i137) (.region [⟨(some i20), none, .move (.c (.int .i64 (.ofNat 3)))⟩])
  .skip))
  (.seq (.seq (.region [⟨(some i138), none, .move (.t i6)⟩, ⟨(some i139), none, .move (.t i14)⟩, ⟨(some i140), none, .call i7 [(.t i138), (.t i139)]⟩, ⟨(some i141), none, .move (.t i20)⟩, ⟨(some i142), none, .bin (.ne .int) (.t i140) (.t i141)⟩])
  (.cond (.t i142) (.seq (.region [⟨(some i4), none, .move (.c (.bool false))⟩])
  .ret)
  .skip))
  (.seq (.region [⟨(some i143), none, .move (.t i20)⟩, ⟨(some i144), none, .bin (.eq .int) (.t i143) (.c (.int .i64 (.ofNat 0)))⟩])
  (.cond (.t i144) (.region [⟨(some i145), none, .move (.t i11)⟩, ⟨(some i146), none, .move (.t i11)⟩, ⟨(some i147), none, .lenSl (.t i146)⟩, ⟨(some i148), none, .move (.t i11)⟩, ⟨(some i149), none, .lenSl (.t i148)⟩, ⟨(some i150), none, .sliceSl 1 (.t i145) none (some (.t i147)) (some (.t i149))⟩, ⟨(some i151), none, .move (.t i14)⟩, ⟨(some i152), none, .buildSlice [(.int .i64 (.ofNat 0))] 1 [(0, 1, (.t i151))]⟩, ⟨(some i153), none, .append 1 (.t i150) (.t i152)⟩, ⟨(some i154), none, .move (.t i10)⟩, ⟨(some i155), none, .bin .sub (.t i154) (.c (.int .i64 (.ofNat 1)))⟩, ⟨(some i11), none, .move (.t i153)⟩, ⟨(some i10), none, .move (.t i155)⟩])
  .skip)))))
  (.seq (.region [⟨(some i157), none, .bin (.eq .int) (.t i70) (.c (.int .u8 (.ofNat 4)))⟩, ⟨(some i156), none, .move (.t i157)⟩])
  (.cond (.t i156) (.seq (.seq (.region [⟨(some i158), none, .move (.t i6)⟩, ⟨(some i159), none, .call i8 [(.t i158)]⟩, ⟨(some i21), none, .move (.t i159)⟩])
  (.seq (.region [⟨(some i160), none, .move (.t i21)⟩, ⟨(some i161), none, .bin (.eq .int) (.t i160) (.c (.int .i64 (.ofNat 0)))⟩, ⟨(some i162), none, .move (.t i10)⟩, ⟨(some i163), none, .bin .gtr (.t i162) (.c (.int .i64 (.ofNat 0)))⟩, ⟨(some i164), none, .bin (.ne .bool) (.t i161) (.t i163)⟩, ⟨(some i165), none, .move (.t i164)⟩, ⟨(some i166), (some (i165, false)), .move (.t i10)⟩, ⟨(some i167), (some (i165, false)), .bin (.eq .int) (.t i166) (.c (.int .i64 (.ofNat 0)))⟩, ⟨(some i168), (some (i165, false)), .move (.t i167)⟩, ⟨(some i169), (some (i168, true)), .move (.t i21)⟩, ⟨(some i170), (some (i168, true)), .bin (.ne .int) (.t i169) (.c (.int .i64 (.ofNat 3)))⟩, ⟨(some i171), (some (i165, false)), .pick (.t i168) (.t i170) (.c (.bool false))⟩, ⟨(some i172), none, .pick (.t i165) (.c (.bool true)) (.t i171)⟩])
  (.cond (.t i172) (.seq (.region [⟨(some i4), none, .move (.c (.bool false))⟩])
  .ret)
  .skip)))
  (.region [⟨(some i173), none, .move (.t i10)⟩, ⟨(some i174), none, .bin .sub (.t i173) (.c (.int .i64 (.ofNat 1)))⟩, ⟨(some i175), none, .max (.t i174) (.c (.int .i64 (.ofNat 0)))⟩, ⟨(some i10), none, .move (.t i175)⟩]))
  (.seq (.region [⟨(some i177), none, .bin (.eq .int) (.t i70) (.c (.int .u8 (.ofNat 5)))⟩, ⟨(some i176), none, .move (.t i177)⟩])
  (.cond (.t i176) (.seq (.seq (.region [⟨(some i178), none, .move (.t i10)⟩, ⟨(some i179), none, .bin .gtr (.t i178) (.c (.int .i64 (.ofNat 0)))⟩])
  (.cond (.t i179) (.seq (.region [⟨(some i22), none, .move (.c (.int .i64 (.ofNat 0)))⟩])
  (.seq (.seq (.region [⟨(some i180), none, .move (.t i9)⟩, ⟨(some i181), none, .bin (.eq .int) (.t i180) (.c (.int .i64 (.ofNat 0)))⟩])
  (.cond (.t i181) (.region [⟨(some i22), none, .move (.c (.int .i64 (.ofNat 3)))⟩])
  .skip))
  (.seq (.seq (.region [⟨(some i182), none, .move (.t i6)⟩, ⟨(some i183), none, .call i9 [(.t i182)]⟩, ⟨(some i184), none, .move (.t i22)⟩, ⟨(some i185), none, .bin (.ne .int) (.t i183) (.t i184)⟩])
  (.cond (.t i185) (.seq (.region [⟨(some i4), none, .move (.c (.bool false))⟩])
  .ret)
  .skip))
  (.seq (.seq (.region [⟨(some i186), none, .move (.t i22)⟩, ⟨(some i187), none, .bin (.eq .int) (.t i186) (.c (.int .i64 (.ofNat 0)))⟩])
  (.cond (.t i187) (.region [⟨(some i188), none, .move (.t i10)⟩, ⟨(some i189), none, .bin .sub (.t i188) (.c (.int .i64 (.ofNat 1)))⟩, ⟨(some i190), none, .move (.t i9)⟩, ⟨(some i191), none, .bin .sub (.t i190) (.c (.int .i64 (.ofNat 1)))⟩, ⟨(some i10), none, .move (.t i189)⟩, ⟨(some i9), none, .move (.t i191)⟩])
  .skip))
  (.exit 3)))))
  .skip))
  (.seq (.seq (.region [⟨(some i192), none, .move (.t i6)⟩, ⟨(some i193), none, .call i9 [(.t i192)]⟩, ⟨(some i194), none, .bin (.ne .int) (.t i193) (.c (.int .i64 (.ofNat 3)))⟩, ⟨(some i195), none, .move (.t i194)⟩, ⟨(some i196), (some (i195, false)), .move (.t i6)⟩, ⟨(some i197), (some (i195, false)), .move (.t i14)⟩, ⟨(some i198), (some (i195, false)), .call i10 [(.t i196), (.t i197)]⟩, ⟨(some i199), (some (i195, false)), .move (.t i17)⟩, ⟨(some i200), (some (i195, false)), .bin (.ne .int) (.t i198) (.t i199)⟩, ⟨(some i201), none, .pick (.t i195) (.c (.bool true)) (.t i200)⟩])
  (.cond (.t i201) (.seq (.region [⟨(some i4), none, .move (.c (.bool false))⟩])
  .ret)
  .skip))
  (.seq (.region [⟨(some i202), none, .move (.t i17)⟩, ⟨(some i203), none, .bin (.eq .int) (.t i202) (.c (.int .i64 (.ofNat 0)))⟩])
  (.cond (.t i203) (.region [⟨(some i204), none, .move (.t i11)⟩, ⟨(some i205), none, .move (.t i11)⟩, ⟨(some i206), none, .lenSl (.t i205)⟩, ⟨(some i207), none, .move (.t i11)⟩, ⟨(some i208), none, .lenSl (.t i207)⟩, ⟨(some i209), none, .sliceSl 1 (.t i204) none (some (.t i206)) (some (.t i208))⟩, ⟨(some i210), none, .move (.t i14)⟩, ⟨(some i211), none, .buildSlice [(.int .i64 (.ofNat 0))] 1 [(0, 1, (.t i210))]⟩, ⟨(some i212), none, .append 1 (.t i209) (.t i211)⟩, ⟨(some i11), none, .move (.t i212)⟩])
  .skip))))
  (.seq (.region [⟨(some i72), none, .move (.t i6)⟩, ⟨(some i73), none, .call i11 [(.t i72)]⟩, ⟨(some i71), none, .move (.t i73)⟩, ⟨(some i74), none, .extract 0 (.t i71)⟩, ⟨(some i75), none, .extract 1 (.t i71)⟩, ⟨(some i23), none, .move (.t i74)⟩, ⟨(some i24), none, .move (.t i75)⟩])
  (.seq (.region [⟨(some i25), none, .move (.c (.int .i64 (.ofNat 0)))⟩, ⟨(some i26), none, .move (.c (.int .u8 (.ofNat 1)))⟩])
  (.seq (.block 4 (.seq (.region [⟨(some i77), none, .move (.t i11)⟩, ⟨(some i78), none, .lenSl (.t i77)⟩, ⟨(some i79), none, .bin .gtr (.t i78) (.c (.int .i64 (.ofNat 0)))⟩, ⟨(some i76), none, .move (.t i79)⟩])
  (.cond (.t i76) (.seq (.region [⟨(some i80), none, .move (.t i11)⟩, ⟨(some i81), none, .indexSl 1 (.t i80) (.c (.int .i64 (.ofNat 0)))⟩, ⟨(some i82), none, .load none (.t i81)⟩, ⟨(some i25), none, .move (.t i82)⟩])
  (.region [⟨(some i83), none, .move (.t i11)⟩, ⟨(some i84), none, .sliceSl 1 (.t i83) (some (.c (.int .i64 (.ofNat 1)))) none none⟩, ⟨(some i85), none, .move (.t i10)⟩, ⟨(some i86), none, .bin .add (.t i85) (.c (.int .i64 (.ofNat 1)))⟩, ⟨(some i11), none, .move (.t i84)⟩, ⟨(some i10), none, .move (.t i86)⟩]))
  (.seq (.region [⟨(some i88), none, .move (.t i10)⟩, ⟨(some i89), none, .bin .gtr (.t i88) (.c (.int .i64 (.ofNat 0)))⟩, ⟨(some i87), none, .move (.t i89)⟩])
  (.cond (.t i87) (.region [⟨(some i26), none, .move (.c (.int .u8 (.ofNat 2)))⟩])
  (.seq (.region [⟨(some i91), none, .move (.t i9)⟩, ⟨(some i92), none, .bin (.eq .int) (.t i91) (.c (.int .i64 (.ofNat 0)))⟩, ⟨(some i90), none, .move (.t i92)⟩])
  (.cond (.t i90) (.region [⟨(some i26), none, .move (.c (.int .u8 (.ofNat 3)))⟩])
  (.region [⟨(some i26), none, .move (.c (.int .u8 (.ofNat 4)))⟩]))))))))
  (.seq (.region [⟨(some i93), none, .move (.t i23)⟩, ⟨(some i94), none, .move (.t i25)⟩, ⟨(some i95), none, .bin (.ne .int) (.t i93) (.t i94)⟩, ⟨(some i96), none, .move (.t i95)⟩, ⟨(some i97), (some (i96, false)), .move (.t i24)⟩, ⟨(some i98), (some (i96, false)), .move (.t i26)⟩, ⟨(some i99), (some (i96, false)), .bin (.ne .int) (.t i97) (.t i98)⟩, ⟨(some i100), none, .pick (.t i96) (.c (.bool true)) (.t i99)⟩])
  (.cond (.t i100) (.seq (.region [⟨(some i4), none, .move (.c (.bool false))⟩])
  .ret)
  .skip)))))))))))))))
  (.seq (.region [⟨(some i213), none, .move (.t i6)⟩, ⟨(some i214), none, .call i12 [(.t i213)]⟩, ⟨(some i215), none, .move (.t i8)⟩, ⟨(some i216), none, .bin (.ne .int) (.t i214) (.t i215)⟩, ⟨(some i217), none, .move (.t i216)⟩, ⟨(some i218), (some (i217, false)), .move (.t i6)⟩, ⟨(some i219), (some (i217, false)), .call i13 [(.t i218)]⟩, ⟨(some i220), (some (i217, false)), .move (.t i9)⟩, ⟨(some i221), (some (i217, false)), .bin (.ne .int) (.t i219) (.t i220)⟩, ⟨(some i222), none, .pick (.t i217) (.c (.bool true)) (.t i221)⟩, ⟨(some i223), none, .move (.t i222)⟩, ⟨(some i224), (some (i223, false)), .move (.t i6)⟩, ⟨(some i225), (some (i223, false)), .call i14 [(.t i224)]⟩, ⟨(some i226), (some (i223, false)), .move (.t i10)⟩, ⟨(some i227), (some (i223, false)), .bin (.ne .int) (.t i225) (.t i226)⟩, ⟨(some i228), none, .pick (.t i223) (.c (.bool true)) (.t i227)⟩, ⟨(some i229), none, .move (.t i228)⟩, ⟨(some i230), (some (i229, false)), .move (.t i6)⟩, ⟨(some i231), (some (i229, false)), .call i16 [(.t i230)]⟩, ⟨(some i232), (some (i229, false)), .move (.t i11)⟩, ⟨(some i233), (some (i229, false)), .call i15 [(.t i231), (.t i232)]⟩, ⟨(some i234), (some (i229, false)), .not (.t i233)⟩, ⟨(some i235), none, .pick (.t i229) (.c (.bool true)) (.t i234)⟩])
  (.cond (.t i235) (.seq (.region [⟨(some i4), none, .move (.c (.bool false))⟩])
  .ret)
  .skip)))))))))
  (.region [⟨(some i236), none, .bin .add (.t i48) (.c (.int .i64 (.ofNat 1)))⟩, ⟨(some i48), none, .move (.t i236)⟩])))))))
  (.seq (.region [⟨(some i237), none, .call i17 []⟩, ⟨(some i4), none, .move (.t i237)⟩])
  .ret))))))))⟩
theorem tr3 : trFunc (tyIn Tryz.prog tyn) ibn Tryz.f3 = some af3 := by kernel_rfl
theorem nm3 : (Tryz.f3.name == "runtime.NumGoroutine") = false := by kernel_rfl
theorem good3 : GoodAt Tryz.prog tyn ibn i3 af3 := goodAt Tryz.func3 tr3 nm3 rfl
def af4 : AFunc := ⟨[.tmp i2, .tmp i3], (.seq (.region [⟨(some i2), none, .move (.c .nilptr)⟩, ⟨(some i3), none, .move (.c (.int .i64 (.ofNat 0)))⟩])
  (.seq (.seq (.region [⟨(some i6), none, .move (.t i0)⟩, ⟨(some i7), none, .bin .lss (.t i6) (.c (.int .i64 (.ofNat 1)))⟩, ⟨(some i8), none, .move (.t i7)⟩, ⟨(some i9), (some (i8, false)), .move (.t i0)⟩, ⟨(some i10), (some (i8, false)), .bin .gtr (.t i9) (.c (.int .i64 (.ofNat 32)))⟩, ⟨(some i11), none, .pick (.t i8) (.c (.bool true)) (.t i10)⟩])
  (.cond (.t i11) (.seq (.region [⟨(some i2), none, .move (.c .nilptr)⟩, ⟨(some i3), none, .move (.c (.int .i64 (.ofNat 2)))⟩])
  .ret)
  .skip))
  (.seq (.region [⟨(some i13), none, .call i18 [(.c (.int .i64 (.ofNat 32)))]⟩, ⟨(some i12), none, .move (.t i13)⟩, ⟨(some i14), none, .extract 0 (.t i12)⟩, ⟨(some i15), none, .extract 1 (.t i12)⟩, ⟨(some i4), none, .move (.t i14)⟩, ⟨(some i5), none, .move (.t i15)⟩])
  (.seq (.region [⟨(some i16), none, .move (.t i4)⟩, ⟨(some i17), none, .move (.t i0)⟩, ⟨(some i18), none, .build [.nilptr, (.int .i64 (.ofNat 0)), (.int .i64 (.ofNat 0)), (.int .i64 (.ofNat 0)), (.int .i64 (.ofNat 0))] [(0, 1, (.t i16)), (1, 1, (.t i17))]⟩, ⟨(some i19), none, .box (.t i18)⟩, ⟨(some i2), none, .move (.t i19)⟩, ⟨(some i3), none, .move (.c (.int .i64 (.ofNat 0)))⟩])
  .ret))))⟩
theorem tr4 : trFunc (tyIn Tryz.prog tyn) ibn Tryz.f4 = some af4 := by kernel_rfl
theorem nm4 : (Tryz.f4.name == "runtime.NumGoroutine") = false := by kernel_rfl
theorem good4 : GoodAt Tryz.prog tyn ibn i4 af4 := goodAt Tryz.func4 tr4 nm4 rfl
def af5 : AFunc := ⟨[.tmp i4, .tmp i5], (.seq (.region [⟨(some i4), none, .move (.c .nilslice)⟩, ⟨(some i5), none, .move (.c (.bool false))⟩])
  (.seq (.seq (.region [⟨(some i8), none, .move (.t i0)⟩, ⟨(some i9), none, .lenSl (.t i8)⟩, ⟨(some i10), none, .move (.c (.int .i64 (.ofNat 0)))⟩])
  (.block 0 (.loop (.seq (.region [⟨(some i11), none, .bin .lss (.t i10) (.t i9)⟩])
  (.seq (.cond (.t i11) .skip
  (.exit 0))
  (.seq (.block 1 (.seq (.region [⟨(some i12), none, .move (.t i10)⟩, ⟨(some i13), none, .indexSl 1 (.t i8) (.t i10)⟩, ⟨(some i14), none, .load none (.t i13)⟩, ⟨(some i6), none, .move (.t i12)⟩, ⟨(some i7), none, .move (.t i14)⟩])
  (.seq (.region [⟨(some i15), none, .move (.t i7)⟩, ⟨(some i16), none, .move (.t i1)⟩, ⟨(some i17), none, .bin (.eq .int) (.t i15) (.t i16)⟩])
  (.cond (.t i17) (.seq (.drawn [⟨0, .a, ⟨(some i18), none, .buildSlice [] 0 []⟩⟩, ⟨1, .v, ⟨(some i19), none, .move (.t i0)⟩⟩, ⟨2, .v, ⟨(some i20), none, .move (.t i6)⟩⟩, ⟨3, .v, ⟨(some i21), none, .sliceSl 1 (.t i19) none (some (.t i20)) none⟩⟩, ⟨4, .e, ⟨(some i22), none, .append 1 (.t i18) (.t i21)⟩⟩, ⟨5, .v, ⟨(some i23), none, .move (.t i0)⟩⟩, ⟨6, .v, ⟨(some i24), none, .move (.t i6)⟩⟩, ⟨7, .v, ⟨(some i25), none, .bin .add (.t i24) (.c (.int .i64 (.ofNat 1)))⟩⟩, ⟨8, .v, ⟨(some i26), none, .sliceSl 1 (.t i23) (some (.t i25)) none none⟩⟩, ⟨9, .e, ⟨(some i27), none, .append 1 (.t i22) (.t i26)⟩⟩, ⟨10, .v, ⟨(some i4), none, .move (.t i27)⟩⟩, ⟨11, .v, ⟨(some i5), none, .move (.c (.bool true))⟩⟩])
  .ret)
  .skip))))
  (.region [⟨(some i28), none, .bin .add (.t i10) (.c (.int .i64 (.ofNat 1)))⟩, ⟨(some i10), none, .move (.t i28)⟩])))))))
  (.seq (.region [⟨(some i29), none, .move (.t i0)⟩, ⟨(some i4), none, .move (.t i29)⟩, ⟨(some i5), none, .move (.c (.bool false))⟩])
  .ret)))⟩
theorem tr5 : trFunc (tyIn Tryz.prog tyn) ibn Tryz.f5 = some af5 := by kernel_rfl
theorem nm5 : (Tryz.f5.name == "runtime.NumGoroutine") = false := by kernel_rfl
theorem good5 : GoodAt Tryz.prog tyn ibn i5 af5 := goodAt Tryz.func5 tr5 nm5 rfl
def af6 : AFunc := ⟨[.tmp i2, .tmp i3], (.seq (.region [⟨(some i2), none, .move (.c (.int .i64 (.ofNat 0)))⟩, ⟨(some i3), none, .move (.c (.int .i64 (.ofNat 0)))⟩])
  (.seq (.block 0 (.seq (.region [⟨(some i6), none, .move (.t i0)⟩, ⟨(some i7), none, .bin (.eq .ptr) (.t i6) (.c .nilptr)⟩, ⟨(some i5), none, .move (.t i7)⟩])
  (.cond (.t i5) (.seq (.region [⟨(some i2), none, .move (.c (.int .i64 (.ofNat 0)))⟩, ⟨(some i3), none, .move (.c (.int .i64 (.ofNat 1)))⟩])
  .ret)
  (.seq (.drawn [⟨0, .v, ⟨(some i9), none, .move (.t i0)⟩⟩, ⟨1, .v, ⟨(some i10), none, .nilCheck (.t i9)⟩⟩, ⟨2, .v, ⟨(some i11), none, .fieldAddr 2 (.t i10)⟩⟩, ⟨3, (.r 0), ⟨(some i12), none, .load none (.t i11)⟩⟩, ⟨4, .v, ⟨(some i13), none, .move (.t i0)⟩⟩, ⟨5, .v, ⟨(some i14), none, .nilCheck (.t i13)⟩⟩, ⟨6, .v, ⟨(some i15), none, .fieldAddr 1 (.t i14)⟩⟩, ⟨7, (.r 0), ⟨(some i16), none, .load none (.t i15)⟩⟩, ⟨8, .v, ⟨(some i17), none, .bin .geq (.t i12) (.t i16)⟩⟩, ⟨9, .v, ⟨(some i8), none, .move (.t i17)⟩⟩])
  (.cond (.t i8) (.seq (.region [⟨(some i2), none, .move (.c (.int .i64 (.ofNat 0)))⟩, ⟨(some i3), none, .move (.c (.int .i64 (.ofNat 4)))⟩])
  .ret)
  .skip)))))
  (.seq (.region [⟨(some i18), none, .move (.t i0)⟩, ⟨(some i19), none, .nilCheck (.t i18)⟩, ⟨(some i20), none, .fieldAddr 2 (.t i19)⟩, ⟨(some i21), none, .load none (.t i20)⟩, ⟨(some i4), none, .move (.t i21)⟩])
  (.seq (.region [⟨(some i22), none, .move (.t i0)⟩, ⟨(some i23), none, .nilCheck (.t i22)⟩, ⟨(some i24), none, .fieldAddr 2 (.t i23)⟩, ⟨(some i25), none, .load none (.t i24)⟩, ⟨(some i26), none, .bin .add (.t i25) (.c (.int .i64 (.ofNat 1)))⟩, ⟨(some i27), none, .nilCheck (.t i22)⟩, ⟨(some i28), none, .fieldAddr 2 (.t i27)⟩, ⟨none, none, .store none (.t i28) (.t i26)⟩])
  (.seq (.region [⟨(some i29), none, .move (.t i0)⟩, ⟨(some i30), none, .nilCheck (.t i29)⟩, ⟨(some i31), none, .fieldAddr 3 (.t i30)⟩, ⟨(some i32), none, .load none (.t i31)⟩, ⟨(some i33), none, .bin .add (.t i32) (.c (.int .i64 (.ofNat 1)))⟩, ⟨(some i34), none, .nilCheck (.t i29)⟩, ⟨(some i35), none, .fieldAddr 3 (.t i34)⟩, ⟨none, none, .store none (.t i35) (.t i33)⟩])
  (.seq (.region [⟨(some i36), none, .move (.t i4)⟩, ⟨(some i37), none, .move (.t i0)⟩, ⟨(some i38), none, .nilCheck (.t i37)⟩, ⟨(some i39), none, .fieldAddr 0 (.t i38)⟩, ⟨(some i40), none, .load none (.t i39)⟩, ⟨(some i41), none, .move (.t i4)⟩, ⟨(some i42), none, .call i19 [(.t i40), (.t i41)]⟩, ⟨(some i2), none, .move (.t i36)⟩, ⟨(some i3), none, .move (.t i42)⟩])
  .ret))))))⟩
theorem tr6 : trFunc (tyIn Tryz.prog tyn) ibn Tryz.f6 = some af6 := by kernel_rfl
theorem nm6 : (Tryz.f6.name == "runtime.NumGoroutine") = false := by kernel_rfl
theorem good6 : GoodAt Tryz.prog tyn ibn i6 af6 := goodAt Tryz.func6 tr6 nm6 rfl
def af7 : AFunc := ⟨[.tmp i4], (.seq (.region [⟨(some i4), none, .move (.c (.int .i64 (.ofNat 0)))⟩])
  (.seq (.block 0 (.seq (.region [⟨(some i7), none, .move (.t i0)⟩, ⟨(some i8), none, .bin (.eq .ptr) (.t i7) (.c .nilptr)⟩, ⟨(some i6), none, .move (.t i8)⟩])
  (.cond (.t i6) (.seq (.region [⟨(some i4), none, .move (.c (.int .i64 (.ofNat 1)))⟩])
  .ret)
  (.seq (.region [⟨(some i10), none, .move (.t i0)⟩, ⟨(some i11), none, .nilCheck (.t i10)⟩, ⟨(some i12), none, .fieldAddr 4 (.t i11)⟩, ⟨(some i13), none, .load none (.t i12)⟩, ⟨(some i14), none, .bin (.eq .int) (.t i13) (.c (.int .i64 (.ofNat 0)))⟩, ⟨(some i9), none, .move (.t i14)⟩])
  (.cond (.t i9) (.seq (.region [⟨(some i4), none, .move (.c (.int .i64 (.ofNat 3)))⟩])
  .ret)
  .skip)))))
  (.seq (.region [⟨(some i15), none, .move (.t i0)⟩, ⟨(some i16), none, .move (.t i1)⟩, ⟨(some i17), none, .call i10 [(.t i15), (.t i16)]⟩, ⟨(some i5), none, .move (.t i17)⟩])
  (.seq (.seq (.region [⟨(some i18), none, .move (.t i5)⟩, ⟨(some i19), none, .bin (.eq .int) (.t i18) (.c (.int .i64 (.ofNat 0)))⟩])
  (.cond (.t i19) (.region [⟨(some i20), none, .move (.t i0)⟩, ⟨(some i21), none, .nilCheck (.t i20)⟩, ⟨(some i22), none, .fieldAddr 4 (.t i21)⟩, ⟨(some i23), none, .load none (.t i22)⟩, ⟨(some i24), none, .bin .sub (.t i23) (.c (.int .i64 (.ofNat 1)))⟩, ⟨(some i25), none, .nilCheck (.t i20)⟩, ⟨(some i26), none, .fieldAddr 4 (.t i25)⟩, ⟨none, none, .store none (.t i26) (.t i24)⟩])
  .skip))
  (.seq (.region [⟨(some i27), none, .move (.t i5)⟩, ⟨(some i4), none, .move (.t i27)⟩])
  .ret)))))⟩
theorem tr7 : trFunc (tyIn Tryz.prog tyn) ibn Tryz.f7 = some af7 := by kernel_rfl
theorem nm7 : (Tryz.f7.name == "runtime.NumGoroutine") = false := by kernel_rfl
theorem good7 : GoodAt Tryz.prog tyn ibn i7 af7 := goodAt Tryz.func7 tr7 nm7 rfl
def af8 : AFunc := ⟨[.tmp i2], (.seq (.region [⟨(some i2), none, .move (.c (.int .i64 (.ofNat 0)))⟩])
  (.seq (.region [⟨(some i3), none, .move (.t i0)⟩, ⟨(some i4), none, .call i20 [(.t i3), (.c (.bool false))]⟩, ⟨(some i2), none, .move (.t i4)⟩])
  .ret))⟩
theorem tr8 : trFunc (tyIn Tryz.prog tyn) ibn Tryz.f8 = some af8 := by kernel_rfl
theorem nm8 : (Tryz.f8.name == "runtime.NumGoroutine") = false := by kernel_rfl
theorem good8 : GoodAt Tryz.prog tyn ibn i8 af8 := goodAt Tryz.func8 tr8 nm8 rfl
def af9 : AFunc := ⟨[.tmp i2], (.seq (.region [⟨(some i2), none, .move (.c (.int .i64 (.ofNat 0)))⟩])
  (.seq (.region [⟨(some i3), none, .move (.t i0)⟩, ⟨(some i4), none, .call i20 [(.t i3), (.c (.bool true))]⟩, ⟨(some i2), none, .move (.t i4)⟩])
  .ret))⟩
theorem tr9 : trFunc (tyIn Tryz.prog tyn) ibn Tryz.f9 = some af9 := by kernel_rfl
theorem nm9 : (Tryz.f9.name == "runtime.NumGoroutine") = false := by kernel_rfl
theorem good9 : GoodAt Tryz.prog tyn ibn i9 af9 := goodAt Tryz.func9 tr9 nm9 rfl
def af10 : AFunc := ⟨[.tmp i4], (.seq (.region [⟨(some i4), none, .move (.c (.int .i64 (.ofNat 0)))⟩])
  (.seq (.block 0 (.seq (.region [⟨(some i6), none, .move (.t i0)⟩, ⟨(some i7), none, .bin (.eq .ptr) (.t i6) (.c .nilptr)⟩, ⟨(some i5), none, .move (.t i7)⟩])
  (.cond (.t i5) (.seq (.region [⟨(some i4), none, .move (.c (.int .i64 (.ofNat 1)))⟩])
  .ret)
  (.seq (.region [⟨(some i9), none, .move (.t i1)⟩, ⟨(some i10), none, .bin .lss (.t i9) (.c (.int .i64 (.ofNat 0)))⟩, ⟨(some i11), none, .move (.t i10)⟩, ⟨(some i12), (some (i11, false)), .move (.t i1)⟩, ⟨(some i13), (some (i11, false)), .move (.t i0)⟩, ⟨(some i14), (some (i11, false)), .nilCheck (.t i13)⟩, ⟨(some i15), (some (i11, false)), .fieldAddr 2 (.t i14)⟩, ⟨(some i16), (some (i11, false)), .load none (.t i15)⟩, ⟨(some i17), (some (i11, false)), .bin .geq (.t i12) (.t i16)⟩, ⟨(some i18), none, .pick (.t i11) (.c (.bool true)) (.t i17)⟩, ⟨(some i8), none, .move (.t i18)⟩])
  (.cond (.t i8) (.seq (.region [⟨(some i4), none, .move (.c (.int .i64 (.ofNat 2)))⟩])
  .ret)
  .skip)))))
  (.seq (.region [⟨(some i19), none, .move (.t i0)⟩, ⟨(some i20), none, .nilCheck (.t i19)⟩, ⟨(some i21), none, .fieldAddr 0 (.t i20)⟩, ⟨(some i22), none, .load none (.t i21)⟩, ⟨(some i23), none, .move (.t i1)⟩, ⟨(some i24), none, .call i19 [(.t i22), (.t i23)]⟩, ⟨(some i4), none, .move (.t i24)⟩])
  .ret)))⟩
theorem tr10 : trFunc (tyIn Tryz.prog tyn) ibn Tryz.f10 = some af10 := by kernel_rfl
theorem nm10 : (Tryz.f10.name == "runtime.NumGoroutine") = false := by kernel_rfl
theorem good10 : GoodAt Tryz.prog tyn ibn i10 af10 := goodAt Tryz.func10 tr10 nm10 rfl
def af11 : AFunc := ⟨[.tmp i2, .tmp i3], (.seq (.region [⟨(some i1), none, .box (.t i0)⟩, ⟨(some i2), none, .move (.c (.int .i64 (.ofNat 0)))⟩, ⟨(some i3), none, .move (.c (.int .u8 (.ofNat 0)))⟩])
  (.seq (.seq (.region [⟨(some i7), none, .load none (.t i1)⟩, ⟨(some i8), none, .bin (.eq .ptr) (.t i7) (.c .nilptr)⟩])
  (.cond (.t i8) (.seq (.region [⟨(some i2), none, .move (.c (.int .i64 (.ofNat 0)))⟩, ⟨(some i3), none, .move (.c (.int .u8 (.ofNat 0)))⟩])
  .ret)
  .skip))
  (.seq (.region [⟨(some i9), none, .mkfn i21 [] [(.t i1)]⟩, ⟨(some i4), none, .move (.t i9)⟩])
  (.seq (.region [⟨(some i11), none, .load none (.t i1)⟩, ⟨(some i12), none, .nilCheck (.t i11)⟩, ⟨(some i13), none, .fieldAddr 0 (.t i12)⟩, ⟨(some i14), none, .load none (.t i13)⟩, ⟨(some i15), none, .call i22 [(.t i14)]⟩, ⟨(some i10), none, .move (.t i15)⟩, ⟨(some i16), none, .extract 0 (.t i10)⟩, ⟨(some i17), none, .extract 1 (.t i10)⟩, ⟨(some i5), none, .move (.t i16)⟩, ⟨(some i6), none, .move (.t i17)⟩])
  (.seq (.seq (.region [⟨(some i18), none, .move (.t i6)⟩, ⟨(some i19), none, .bin (.ne .int) (.t i18) (.c (.int .i64 (.ofNat 0)))⟩])
  (.cond (.t i19) (.seq (.region [⟨(some i20), none, .move (.t i4)⟩, ⟨(some i21), none, .callv (.t i20) []⟩, ⟨(some i2), none, .move (.c (.int .i64 (.ofNat 0)))⟩, ⟨(some i3), none, .move (.t i21)⟩])
  .ret)
  .skip))
  (.seq (.region [⟨(some i22), none, .load none (.t i1)⟩, ⟨(some i23), none, .nilCheck (.t i22)⟩, ⟨(some i24), none, .fieldAddr 4 (.t i23)⟩, ⟨(some i25), none, .load none (.t i24)⟩, ⟨(some i26), none, .bin .add (.t i25) (.c (.int .i64 (.ofNat 1)))⟩, ⟨(some i27), none, .nilCheck (.t i22)⟩, ⟨(some i28), none, .fieldAddr 4 (.t i27)⟩, ⟨none, none, .store none (.t i28) (.t i26)⟩])
  (.seq (.region [⟨(some i29), none, .move (.t i5)⟩, ⟨(some i2), none, .move (.t i29)⟩, ⟨(some i3), none, .move (.c (.int .u8 (.ofNat 1)))⟩])
  .ret)))))))⟩
theorem tr11 : trFunc (tyIn Tryz.prog tyn) ibn Tryz.f11 = some af11 := by kernel_rfl
theorem nm11 : (Tryz.f11.name == "runtime.NumGoroutine") = false := by kernel_rfl
theorem good11 : GoodAt Tryz.prog tyn ibn i11 af11 := goodAt Tryz.func11 tr11 nm11 rfl
def af12 : AFunc := ⟨[.tmp i2], (.seq (.region [⟨(some i2), none, .move (.c (.int .i64 (.ofNat 0)))⟩])
  (.seq (.seq (.region [⟨(some i3), none, .move (.t i0)⟩, ⟨(some i4), none, .bin (.eq .ptr) (.t i3) (.c .nilptr)⟩])
  (.cond (.t i4) (.seq (.region [⟨(some i2), none, .move (.c (.int .i64 (.ofNat 0)))⟩])
  .ret)
  .skip))
  (.seq (.region [⟨(some i5), none, .move (.t i0)⟩, ⟨(some i6), none, .nilCheck (.t i5)⟩, ⟨(some i7), none, .fieldAddr 2 (.t i6)⟩, ⟨(some i8), none, .load none (.t i7)⟩, ⟨(some i2), none, .move (.t i8)⟩])
  .ret)))⟩
theorem tr12 : trFunc (tyIn Tryz.prog tyn) ibn Tryz.f12 = some af12 := by kernel_rfl
theorem nm12 : (Tryz.f12.name == "runtime.NumGoroutine") = false := by kernel_rfl
theorem good12 : GoodAt Tryz.prog tyn ibn i12 af12 := goodAt Tryz.func12 tr12 nm12 rfl
def af13 : AFunc := ⟨[.tmp i2], (.seq (.region [⟨(some i2), none, .move (.c (.int .i64 (.ofNat 0)))⟩])
  (.seq (.seq (.region [⟨(some i3), none, .move (.t i0)⟩, ⟨(some i4), none, .bin (.eq .ptr) (.t i3) (.c .nilptr)⟩])
  (.cond (.t i4) (.seq (.region [⟨(some i2), none, .move (.c (.int .i64 (.ofNat 0)))⟩])
  .ret)
  .skip))
  (.seq (.region [⟨(some i5), none, .move (.t i0)⟩, ⟨(some i6), none, .nilCheck (.t i5)⟩, ⟨(some i7), none, .fieldAddr 3 (.t i6)⟩, ⟨(some i8), none, .load none (.t i7)⟩, ⟨(some i2), none, .move (.t i8)⟩])
  .ret)))⟩
theorem tr13 : trFunc (tyIn Tryz.prog tyn) ibn Tryz.f13 = some af13 := by kernel_rfl
theorem nm13 : (Tryz.f13.name == "runtime.NumGoroutine") = false := by kernel_rfl
theorem good13 : GoodAt Tryz.prog tyn ibn i13 af13 := goodAt Tryz.func13 tr13 nm13 rfl
def af14 : AFunc := ⟨[.tmp i2], (.seq (.region [⟨(some i2), none, .move (.c (.int .i64 (.ofNat 0)))⟩])
  (.seq (.seq (.region [⟨(some i3), none, .move (.t i0)⟩, ⟨(some i4), none, .bin (.eq .ptr) (.t i3) (.c .nilptr)⟩])
  (.cond (.t i4) (.seq (.region [⟨(some i2), none, .move (.c (.int .i64 (.ofNat 0)))⟩])
  .ret)
  .skip))
  (.seq (.region [⟨(some i5), none, .move (.t i0)⟩, ⟨(some i6), none, .nilCheck (.t i5)⟩, ⟨(some i7), none, .fieldAddr 4 (.t i6)⟩, ⟨(some i8), none, .load none (.t i7)⟩, ⟨(some i2), none, .move (.t i8)⟩])
  .ret)))⟩
theorem tr14 : trFunc (tyIn Tryz.prog tyn) ibn Tryz.f14 = some af14 := by kernel_rfl
theorem nm14 : (Tryz.f14.name == "runtime.NumGoroutine") = false := by kernel_rfl
theorem good14 : GoodAt Tryz.prog tyn ibn i14 af14 := goodAt Tryz.func14 tr14 nm14 rfl
def af15 : AFunc := ⟨[.tmp i4], (.seq (.region [⟨(some i4), none, .move (.c (.bool false))⟩])
  (.seq (.seq (.region [⟨(some i6), none, .move (.t i0)⟩, ⟨(some i7), none, .lenSl (.t i6)⟩, ⟨(some i8), none, .move (.t i1)⟩, ⟨(some i9), none, .lenSl (.t i8)⟩, ⟨(some i10), none, .bin (.ne .int) (.t i7) (.t i9)⟩])
  (.cond (.t i10) (.seq (.region [⟨(some i4), none, .move (.c (.bool false))⟩])
  .ret)
  .skip))
  (.seq (.seq (.region [⟨(some i11), none, .move (.t i0)⟩, ⟨(some i12), none, .lenSl (.t i11)⟩, ⟨(some i13), none, .move (.c (.int .i64 (.ofNat 0)))⟩])
  (.block 0 (.loop (.seq (.region [⟨(some i14), none, .bin .lss (.t i13) (.t i12)⟩])
  (.seq (.cond (.t i14) .skip
  (.exit 0))
  (.seq (.block 1 (.seq (.region [⟨(some i15), none, .move (.t i13)⟩, ⟨(some i5), none, .move (.t i15)⟩])
  (.seq (.drawn [⟨0, .v, ⟨(some i16), none, .move (.t i0)⟩⟩, ⟨1, .v, ⟨(some i17), none, .move (.t i5)⟩⟩, ⟨2, .v, ⟨(some i18), none, .indexSl 1 (.t i16) (.t i17)⟩⟩, ⟨3, (.r 0), ⟨(some i19), none, .load none (.t i18)⟩⟩, ⟨4, .v, ⟨(some i20), none, .move (.t i1)⟩⟩, ⟨5, .v, ⟨(some i21), none, .move (.t i5)⟩⟩, ⟨6, .v, ⟨(some i22), none, .indexSl 1 (.t i20) (.t i21)⟩⟩, ⟨7, (.r 0), ⟨(some i23), none, .load none (.t i22)⟩⟩, ⟨8, .v, ⟨(some i24), none, .bin (.ne .int) (.t i19) (.t i23)⟩⟩])
  (.cond (.t i24) (.seq (.region [⟨(some i4), none, .move (.c (.bool false))⟩])
  .ret)
  .skip))))
  (.region [⟨(some i25), none, .bin .add (.t i13) (.c (.int .i64 (.ofNat 1)))⟩, ⟨(some i13), none, .move (.t i25)⟩])))))))
  (.seq (.region [⟨(some i4), none, .move (.c (.bool true))⟩])
  .ret))))⟩
theorem tr15 : trFunc (tyIn Tryz.prog tyn) ibn Tryz.f15 = some af15 := by kernel_rfl
theorem nm15 : (Tryz.f15.name == "runtime.NumGoroutine") = false := by kernel_rfl
theorem good15 : GoodAt Tryz.prog tyn ibn i15 af15 := goodAt Tryz.func15 tr15 nm15 rfl
def af16 : AFunc := ⟨[.tmp i2], (.seq (.region [⟨(some i2), none, .move (.c .nilslice)⟩])
  (.seq (.seq (.region [⟨(some i3), none, .move (.t i0)⟩, ⟨(some i4), none, .bin (.eq .ptr) (.t i3) (.c .nilptr)⟩])
  (.cond (.t i4) (.seq (.region [⟨(some i2), none, .move (.c .nilslice)⟩])
  .ret)
  .skip))
  (.seq (.region [⟨(some i5), none, .move (.t i0)⟩, ⟨(some i6), none, .nilCheck (.t i5)⟩, ⟨(some i7), none, .fieldAddr 0 (.t i6)⟩, ⟨(some i8), none, .load none (.t i7)⟩, ⟨(some i9), none, .call i23 [(.t i8)]⟩, ⟨(some i2), none, .move (.t i9)⟩])
  .ret)))⟩
theorem tr16 : trFunc (tyIn Tryz.prog tyn) ibn Tryz.f16 = some af16 := by kernel_rfl
theorem nm16 : (Tryz.f16.name == "runtime.NumGoroutine") = false := by kernel_rfl
theorem good16 : GoodAt Tryz.prog tyn ibn i16 af16 := goodAt Tryz.func16 tr16 nm16 rfl
def af17 : AFunc := ⟨[.tmp i0], (.seq (.region [⟨(some i0), none, .move (.c (.bool false))⟩])
  (.seq (.region [⟨(some i4), none, .call i25 []⟩, ⟨(some i5), none, .build [(.int .i64 (.ofNat 0)), (.int .i64 (.ofNat 0)), (.int .i64 (.ofNat 0))] [(0, 1, (.c (.int .i64 (.ofNat 1)))), (1, 1, (.c (.int .i64 (.ofNat 4)))), (2, 1, (.c (.int .i64 (.ofNat 2))))]⟩, ⟨(some i6), none, .call i24 [(.t i4), (.t i5)]⟩, ⟨(some i3), none, .move (.t i6)⟩, ⟨(some i7), none, .extract 0 (.t i3)⟩, ⟨(some i8), none, .extract 1 (.t i3)⟩, ⟨(some i1), none, .move (.t i7)⟩, ⟨(some i2), none, .move (.t i8)⟩])
  (.seq (.seq (.region [⟨(some i9), none, .move (.t i2)⟩, ⟨(some i10), none, .bin (.ne .int) (.t i9) (.c (.int .i64 (.ofNat 0)))⟩, ⟨(some i11), none, .move (.t i10)⟩, ⟨(some i12), (some (i11, false)), .move (.t i1)⟩, ⟨(some i13), (some (i11, false)), .bin (.eq .ptr) (.t i12) (.c .nilptr)⟩, ⟨(some i14), none, .pick (.t i11) (.c (.bool true)) (.t i13)⟩])
  (.cond (.t i14) (.seq (.region [⟨(some i0), none, .move (.c (.bool false))⟩])
  .ret)
  .skip))
  (.seq (.region [⟨(some i15), none, .move (.t i1)⟩, ⟨(some i16), none, .call i27 []⟩, ⟨(some i17), none, .call i26 [(.t i15), (.t i16)]⟩])
  (.seq (.region [⟨(some i18), none, .move (.t i1)⟩, ⟨(some i19), none, .call i28 [(.t i18)]⟩, ⟨(some i20), none, .bin (.eq .int) (.t i19) (.c (.int .u8 (.ofNat 2)))⟩, ⟨(some i21), none, .move (.t i20)⟩, ⟨(some i22), (some (i21, true)), .move (.t i1)⟩, ⟨(some i23), (some (i21, true)), .call i29 [(.t i22)]⟩, ⟨(some i24), (some (i21, true)), .lenSl (.t i23)⟩, ⟨(some i25), (some (i21, true)), .bin .geq (.t i24) (.c (.int .i64 (.ofNat 5)))⟩, ⟨(some i26), none, .pick (.t i21) (.t i25) (.c (.bool false))⟩, ⟨(some i0), none, .move (.t i26)⟩])
  .ret)))))⟩
theorem tr17 : trFunc (tyIn Tryz.prog tyn) ibn Tryz.f17 = some af17 := by kernel_rfl
theorem nm17 : (Tryz.f17.name == "runtime.NumGoroutine") = false := by kernel_rfl
theorem good17 : GoodAt Tryz.prog tyn ibn i17 af17 := goodAt Tryz.func17 tr17 nm17 rfl
def af18 : AFunc := ⟨[.tmp i2, .tmp i3], (.seq (.region [⟨(some i2), none, .move (.c .nilptr)⟩, ⟨(some i3), none, .move (.c (.int .i64 (.ofNat 0)))⟩])
  (.seq (.seq (.region [⟨(some i4), none, .move (.t i0)⟩, ⟨(some i5), none, .bin .lss (.t i4) (.c (.int .i64 (.ofNat 1)))⟩, ⟨(some i6), none, .move (.t i5)⟩, ⟨(some i7), (some (i6, false)), .move (.t i0)⟩, ⟨(some i8), (some (i6, false)), .bin .gtr (.t i7) (.c (.int .i64 (.ofNat 32)))⟩, ⟨(some i9), none, .pick (.t i6) (.c (.bool true)) (.t i8)⟩])
  (.cond (.t i9) (.seq (.region [⟨(some i2), none, .move (.c .nilptr)⟩, ⟨(some i3), none, .move (.c (.int .i64 (.ofNat 2)))⟩])
  .ret)
  .skip))
  (.seq (.region [⟨(some i10), none, .move (.t i0)⟩, ⟨(some i11), none, .build [(.int .i64 (.ofNat 0)), (.int .i64 (.ofNat 0)), (.int .i64 (.ofNat 0)), (.int .i64 (.ofNat 0)), (.int .i64 (.ofNat 0)), (.int .i64 (.ofNat 0)), (.int .i64 (.ofNat 0)), (.int .i64 (.ofNat 0)), (.int .i64 (.ofNat 0)), (.int .i64 (.ofNat 0)), (.int .i64 (.ofNat 0)), (.int .i64 (.ofNat 0)), (.int .i64 (.ofNat 0)), (.int .i64 (.ofNat 0)), (.int .i64 (.ofNat 0)), (.int .i64 (.ofNat 0)), (.int .i64 (.ofNat 0)), (.int .i64 (.ofNat 0)), (.int .i64 (.ofNat 0)), (.int .i64 (.ofNat 0)), (.int .i64 (.ofNat 0)), (.int .i64 (.ofNat 0)), (.int .i64 (.ofNat 0)), (.int .i64 (.ofNat 0)), (.int .i64 (.ofNat 0)), (.int .i64 (.ofNat 0)), (.int .i64 (.ofNat 0)), (.int .i64 (.ofNat 0)), (.int .i64 (.ofNat 0)), (.int .i64 (.ofNat 0)), (.int .i64 (.ofNat 0)), (.int .i64 (.ofNat 0)), (.int .i64 (.ofNat 0)), (.int .i64 (.ofNat 0)), (.int .i64 (.ofNat 0))] [(34, 1, (.t i10))]⟩, ⟨(some i12), none, .box (.t i11)⟩, ⟨(some i2), none, .move (.t i12)⟩, ⟨(some i3), none, .move (.c (.int .i64 (.ofNat 0)))⟩])
  .ret)))⟩
theorem tr18 : trFunc (tyIn Tryz.prog tyn) ibn Tryz.f18 = some af18 := by kernel_rfl
theorem nm18 : (Tryz.f18.name == "runtime.NumGoroutine") = false := by kernel_rfl
theorem good18 : GoodAt Tryz.prog tyn ibn i18 af18 := goodAt Tryz.func18 tr18 nm18 rfl
def af19 : AFunc := ⟨[.tmp i4], (.seq (.region [⟨(some i4), none, .move (.c (.int .i64 (.ofNat 0)))⟩])
  (.seq (.block 0 (.seq (.region [⟨(some i6), none, .move (.t i0)⟩, ⟨(some i7), none, .bin (.eq .ptr) (.t i6) (.c .nilptr)⟩, ⟨(some i5), none, .move (.t i7)⟩])
  (.cond (.t i5) (.seq (.region [⟨(some i4), none, .move (.c (.int .i64 (.ofNat 1)))⟩])
  .ret)
  (.seq (.region [⟨(some i9), none, .move (.t i1)⟩, ⟨(some i10), none, .bin .lss (.t i9) (.c (.int .i64 (.ofNat 0)))⟩, ⟨(some i11), none, .move (.t i10)⟩, ⟨(some i12), (some (i11, false)), .move (.t i1)⟩, ⟨(some i13), (some (i11, false)), .bin .geq (.t i12) (.c (.int .i64 (.ofNat 32)))⟩, ⟨(some i14), none, .pick (.t i11) (.c (.bool true)) (.t i13)⟩, ⟨(some i8), none, .move (.t i14)⟩])
  (.cond (.t i8) (.seq (.region [⟨(some i4), none, .move (.c (.int .i64 (.ofNat 2)))⟩])
  .ret)
  (.seq (.region [⟨(some i16), none, .move (.t i0)⟩, ⟨(some i17), none, .move (.t i1)⟩, ⟨(some i18), none, .call i30 [(.t i16), (.t i17)]⟩, ⟨(some i15), none, .move (.t i18)⟩])
  (.cond (.t i15) (.seq (.region [⟨(some i4), none, .move (.c (.int .i64 (.ofNat 9)))⟩])
  .ret)
  (.seq (.drawn [⟨0, .v, ⟨(some i20), none, .move (.t i0)⟩⟩, ⟨1, .v, ⟨(some i21), none, .nilCheck (.t i20)⟩⟩, ⟨2, .v, ⟨(some i22), none, .fieldAddr 33 (.t i21)⟩⟩, ⟨3, (.r 0), ⟨(some i23), none, .load none (.t i22)⟩⟩, ⟨4, .v, ⟨(some i24), none, .move (.t i0)⟩⟩, ⟨5, .v, ⟨(some i25), none, .nilCheck (.t i24)⟩⟩, ⟨6, .v, ⟨(some i26), none, .fieldAddr 34 (.t i25)⟩⟩, ⟨7, (.r 0), ⟨(some i27), none, .load none (.t i26)⟩⟩, ⟨8, .v, ⟨(some i28), none, .bin .geq (.t i23) (.t i27)⟩⟩, ⟨9, .v, ⟨(some i19), none, .move (.t i28)⟩⟩])
  (.cond (.t i19) (.seq (.region [⟨(some i4), none, .move (.c (.int .i64 (.ofNat 4)))⟩])
  .ret)
  .skip)))))))))
  (.seq (.drawn [⟨1, .v, ⟨(some i30), none, .move (.t i0)⟩⟩, ⟨2, .v, ⟨(some i31), none, .move (.t i0)⟩⟩, ⟨3, .v, ⟨(some i32), none, .nilCheck (.t i31)⟩⟩, ⟨4, .v, ⟨(some i33), none, .fieldAddr 33 (.t i32)⟩⟩, ⟨5, (.r 0), ⟨(some i34), none, .load none (.t i33)⟩⟩, ⟨6, .e, ⟨(some i35), none, .call i31 [(.t i30), (.t i34)]⟩⟩, ⟨0, .v, ⟨(some i29), none, .move (.t i0)⟩⟩, ⟨7, .v, ⟨(some i36), none, .move (.t i1)⟩⟩, ⟨8, .v, ⟨(some i37), none, .nilCheck (.t i29)⟩⟩, ⟨9, .v, ⟨(some i38), none, .fieldAddr 0 (.t i37)⟩⟩, ⟨10, .v, ⟨(some i39), none, .indexArr 32 1 (.t i38) (.t i35)⟩⟩, ⟨11, .e, ⟨none, none, .store none (.t i39) (.t i36)⟩⟩])
  (.seq (.region [⟨(some i40), none, .move (.t i0)⟩, ⟨(some i41), none, .nilCheck (.t i40)⟩, ⟨(some i42), none, .fieldAddr 33 (.t i41)⟩, ⟨(some i43), none, .load none (.t i42)⟩, ⟨(some i44), none, .bin .add (.t i43) (.c (.int .i64 (.ofNat 1)))⟩, ⟨(some i45), none, .nilCheck (.t i40)⟩, ⟨(some i46), none, .fieldAddr 33 (.t i45)⟩, ⟨none, none, .store none (.t i46) (.t i44)⟩])
  (.seq (.region [⟨(some i4), none, .move (.c (.int .i64 (.ofNat 0)))⟩])
  .ret)))))⟩
theorem tr19 : trFunc (tyIn Tryz.prog tyn) ibn Tryz.f19 = some af19 := by kernel_rfl
theorem nm19 : (Tryz.f19.name == "runtime.NumGoroutine") = false := by kernel_rfl
theorem good19 : GoodAt Tryz.prog tyn ibn i19 af19 := goodAt Tryz.func19 tr19 nm19 rfl
def af20 : AFunc := ⟨[.tmp i4], (.seq (.region [⟨(some i4), none, .move (.c (.int .i64 (.ofNat 0)))⟩])
  (.seq (.block 0 (.seq (.block 3 (.block 2 (.seq (.block 1 (.seq (.seq (.seq (.region [⟨(some i6), none, .move (.t i0)⟩, ⟨(some i7), none, .bin (.eq .ptr) (.t i6) (.c .nilptr)⟩, ⟨(some i5), none, .move (.t i7)⟩])
  (.cond (.t i5) (.exit 1)
  .skip))
  (.seq (.seq (.region [⟨(some i9), none, .move (.t i1)⟩, ⟨(some i10), none, .move (.t i9)⟩, ⟨(some i11), (some (i10, true)), .move (.t i0)⟩, ⟨(some i12), (some (i10, true)), .nilCheck (.t i11)⟩, ⟨(some i13), (some (i10, true)), .fieldAddr 3 (.t i12)⟩, ⟨(some i14), (some (i10, true)), .load none (.t i13)⟩, ⟨(some i15), (some (i10, true)), .bin (.eq .int) (.t i14) (.c (.int .i64 (.ofNat 0)))⟩, ⟨(some i16), none, .pick (.t i10) (.t i15) (.c (.bool false))⟩, ⟨(some i8), none, .move (.t i16)⟩])
  (.cond (.t i8) (.exit 2)
  .skip))
  (.seq (.region [⟨(some i18), none, .move (.t i0)⟩, ⟨(some i19), none, .nilCheck (.t i18)⟩, ⟨(some i20), none, .fieldAddr 4 (.t i19)⟩, ⟨(some i21), none, .load none (.t i20)⟩, ⟨(some i22), none, .bin (.eq .int) (.t i21) (.c (.int .i64 (.ofNat 0)))⟩, ⟨(some i17), none, .move (.t i22)⟩])
  (.cond (.t i17) (.exit 3)
  .skip))))
  (.exit 0)))
  (.seq (.seq (.region [⟨(some i4), none, .move (.c (.int .i64 (.ofNat 1)))⟩])
  .ret)
  (.exit 0)))))
  (.seq (.seq (.region [⟨(some i4), none, .move (.c (.int .i64 (.ofNat 3)))⟩])
  .ret)
  (.exit 0))))
  (.seq (.seq (.region [⟨(some i23), none, .move (.t i1)⟩])
  (.cond (.t i23) (.region [⟨(some i24), none, .move (.t i0)⟩, ⟨(some i25), none, .nilCheck (.t i24)⟩, ⟨(some i26), none, .fieldAddr 3 (.t i25)⟩, ⟨(some i27), none, .load none (.t i26)⟩, ⟨(some i28), none, .bin .sub (.t i27) (.c (.int .i64 (.ofNat 1)))⟩, ⟨(some i29), none, .nilCheck (.t i24)⟩, ⟨(some i30), none, .fieldAddr 3 (.t i29)⟩, ⟨none, none, .store none (.t i30) (.t i28)⟩])
  .skip))
  (.seq (.region [⟨(some i31), none, .move (.t i0)⟩, ⟨(some i32), none, .nilCheck (.t i31)⟩, ⟨(some i33), none, .fieldAddr 4 (.t i32)⟩, ⟨(some i34), none, .load none (.t i33)⟩, ⟨(some i35), none, .bin .sub (.t i34) (.c (.int .i64 (.ofNat 1)))⟩, ⟨(some i36), none, .nilCheck (.t i31)⟩, ⟨(some i37), none, .fieldAddr 4 (.t i36)⟩, ⟨none, none, .store none (.t i37) (.t i35)⟩])
  (.seq (.region [⟨(some i4), none, .move (.c (.int .i64 (.ofNat 0)))⟩])
  .ret)))))⟩
theorem tr20 : trFunc (tyIn Tryz.prog tyn) ibn Tryz.f20 = some af20 := by kernel_rfl
theorem nm20 : (Tryz.f20.name == "runtime.NumGoroutine") = false := by kernel_rfl
theorem good20 : GoodAt Tryz.prog tyn ibn i20 af20 := goodAt Tryz.func20 tr20 nm20 rfl
def af21 : AFunc := ⟨[.tmp i1], (.seq (.region [⟨(some i1), none, .move (.c (.int .u8 (.ofNat 0)))⟩])
  (.seq (.block 0 (.seq (.region [⟨(some i3), none, .load none (.t i0)⟩, ⟨(some i4), none, .nilCheck (.t i3)⟩, ⟨(some i5), none, .fieldAddr 4 (.t i4)⟩, ⟨(some i6), none, .load none (.t i5)⟩, ⟨(some i7), none, .bin .gtr (.t i6) (.c (.int .i64 (.ofNat 0)))⟩, ⟨(some i2), none, .move (.t i7)⟩])
  (.cond (.t i2) (.seq (.region [⟨(some i1), none, .move (.c (.int .u8 (.ofNat 2)))⟩])
  .ret)
  (.seq (.region [⟨(some i9), none, .load none (.t i0)⟩, ⟨(some i10), none, .nilCheck (.t i9)⟩, ⟨(some i11), none, .fieldAddr 3 (.t i10)⟩, ⟨(some i12), none, .load none (.t i11)⟩, ⟨(some i13), none, .bin (.eq .int) (.t i12) (.c (.int .i64 (.ofNat 0)))⟩, ⟨(some i8), none, .move (.t i13)⟩])
  (.cond (.t i8) (.seq (.region [⟨(some i1), none, .move (.c (.int .u8 (.ofNat 3)))⟩])
  .ret)
  .skip)))))
  (.seq (.region [⟨(some i1), none, .move (.c (.int .u8 (.ofNat 4)))⟩])
  .ret)))⟩
theorem tr21 : trFunc (tyIn Tryz.prog tyn) ibn Tryz.f21 = some af21 := by kernel_rfl
theorem nm21 : (Tryz.f21.name == "runtime.NumGoroutine") = false := by kernel_rfl
theorem good21 : GoodAt Tryz.prog tyn ibn i21 af21 := goodAt Tryz.func21 tr21 nm21 rfl
def af22 : AFunc := ⟨[.tmp i2, .tmp i3], (.seq (.region [⟨(some i2), none, .move (.c (.int .i64 (.ofNat 0)))⟩, ⟨(some i3), none, .move (.c (.int .i64 (.ofNat 0)))⟩])
  (.seq (.block 0 (.seq (.region [⟨(some i6), none, .move (.t i0)⟩, ⟨(some i7), none, .bin (.eq .ptr) (.t i6) (.c .nilptr)⟩, ⟨(some i5), none, .move (.t i7)⟩])
  (.cond (.t i5) (.seq (.region [⟨(some i2), none, .move (.c (.int .i64 (.ofNat 0)))⟩, ⟨(some i3), none, .move (.c (.int .i64 (.ofNat 1)))⟩])
  .ret)
  (.seq (.region [⟨(some i9), none, .move (.t i0)⟩, ⟨(some i10), none, .nilCheck (.t i9)⟩, ⟨(some i11), none, .fieldAddr 33 (.t i10)⟩, ⟨(some i12), none, .load none (.t i11)⟩, ⟨(some i13), none, .bin (.eq .int) (.t i12) (.c (.int .i64 (.ofNat 0)))⟩, ⟨(some i8), none, .move (.t i13)⟩])
  (.cond (.t i8) (.seq (.region [⟨(some i2), none, .move (.c (.int .i64 (.ofNat 0)))⟩, ⟨(some i3), none, .move (.c (.int .i64 (.ofNat 3)))⟩])
  .ret)
  .skip)))))
  (.seq (.drawn [⟨0, .v, ⟨(some i14), none, .move (.t i0)⟩⟩, ⟨1, .v, ⟨(some i15), none, .move (.t i0)⟩⟩, ⟨2, .v, ⟨(some i16), none, .nilCheck (.t i15)⟩⟩, ⟨3, .v, ⟨(some i17), none, .fieldAddr 32 (.t i16)⟩⟩, ⟨4, (.r 0), ⟨(some i18), none, .load none (.t i17)⟩⟩, ⟨5, .v, ⟨(some i19), none, .nilCheck (.t i14)⟩⟩, ⟨6, .v, ⟨(some i20), none, .fieldAddr 0 (.t i19)⟩⟩, ⟨7, .v, ⟨(some i21), none, .indexArr 32 1 (.t i20) (.t i18)⟩⟩, ⟨8, (.r 0), ⟨(some i22), none, .load none (.t i21)⟩⟩, ⟨9, .v, ⟨(some i4), none, .move (.t i22)⟩⟩])
  (.seq (.region [⟨(some i23), none, .move (.t i0)⟩, ⟨(some i24), none, .move (.t i0)⟩, ⟨(some i25), none, .call i31 [(.t i24), (.c (.int .i64 (.ofNat 1)))]⟩, ⟨(some i26), none, .nilCheck (.t i23)⟩, ⟨(some i27), none, .fieldAddr 32 (.t i26)⟩, ⟨none, none, .store none (.t i27) (.t i25)⟩])
  (.seq (.region [⟨(some i28), none, .move (.t i0)⟩, ⟨(some i29), none, .nilCheck (.t i28)⟩, ⟨(some i30), none, .fieldAddr 33 (.t i29)⟩, ⟨(some i31), none, .load none (.t i30)⟩, ⟨(some i32), none, .bin .sub (.t i31) (.c (.int .i64 (.ofNat 1)))⟩, ⟨(some i33), none, .nilCheck (.t i28)⟩, ⟨(some i34), none, .fieldAddr 33 (.t i33)⟩, ⟨none, none, .store none (.t i34) (.t i32)⟩])
  (.seq (.region [⟨(some i35), none, .move (.t i4)⟩, ⟨(some i2), none, .move (.t i35)⟩, ⟨(some i3), none, .move (.c (.int .i64 (.ofNat 0)))⟩])
  .ret))))))⟩
theorem tr22 : trFunc (tyIn Tryz.prog tyn) ibn Tryz.f22 = some af22 := by kernel_rfl
theorem nm22 : (Tryz.f22.name == "runtime.NumGoroutine") = false := by kernel_rfl
theorem good22 : GoodAt Tryz.prog tyn ibn i22 af22 := goodAt Tryz.func22 tr22 nm22 rfl
def af23 : AFunc := ⟨[.cell i2 none], (.seq (.region [⟨(some i2), none, .alloc [.nilslice]⟩])
  (.seq (.seq (.region [⟨(some i5), none, .move (.t i0)⟩, ⟨(some i6), none, .bin (.eq .ptr) (.t i5) (.c .nilptr)⟩])
  (.cond (.t i6) (.seq (.region [⟨none, none, .store none (.t i2) (.c .nilslice)⟩])
  .ret)
  .skip))
  (.seq (.seq (.region [⟨(some i7), none, .move (.t i0)⟩, ⟨(some i8), none, .mkfn i32 [(.t i7)] []⟩])
  (.block 0 (.rangeFunc (.t i8) [i9, i10] (.region [⟨(some i4), none, .move (.t i10)⟩]) (.block 1 (.region [⟨(some i11), none, .load none (.t i2)⟩, ⟨(some i12), none, .move (.t i4)⟩, ⟨(some i13), none, .buildSlice [(.int .i64 (.ofNat 0))] 1 [(0, 1, (.t i12))]⟩, ⟨(some i14), none, .append 1 (.t i11) (.t i13)⟩, ⟨none, none, .store none (.t i2) (.t i14)⟩])))))
  (.seq (.region [⟨(some i15), none, .load none (.t i2)⟩, ⟨none, none, .store none (.t i2) (.t i15)⟩])
  .ret))))⟩
theorem tr23 : trFunc (tyIn Tryz.prog tyn) ibn Tryz.f23 = some af23 := by kernel_rfl
theorem nm23 : (Tryz.f23.name == "runtime.NumGoroutine") = false := by kernel_rfl
theorem good23 : GoodAt Tryz.prog tyn ibn i23 af23 := goodAt Tryz.func23 tr23 nm23 rfl
def af24 : AFunc := ⟨[.tmp i4, .tmp i5], (.seq (.region [⟨(some i2), none, .box (.t i0)⟩, ⟨(some i3), none, .box (.t i1)⟩, ⟨(some i4), none, .move (.c .nilptr)⟩, ⟨(some i5), none, .move (.c (.int .i64 (.ofNat 0)))⟩])
  (.seq (.region [⟨(some i6), none, .move (.c (.fn i33 [] []))⟩])
  (.seq (.seq (.region [⟨(some i19), none, .load (some 3) (.t i2)⟩, ⟨(some i20), none, .call i34 [(.t i19)]⟩, ⟨(some i18), none, .move (.t i20)⟩, ⟨(some i21), none, .extract 0 (.t i18)⟩, ⟨(some i22), none, .extract 1 (.t i18)⟩, ⟨(some i23), none, .extract 2 (.t i18)⟩, ⟨(some i7), none, .move (.t i21)⟩, ⟨(some i8), none, .move (.t i22)⟩, ⟨(some i9), none, .move (.t i23)⟩])
  (.seq (.region [⟨(some i24), none, .move (.t i9)⟩, ⟨(some i25), none, .bin (.ne .int) (.t i24) (.c (.int .i64 (.ofNat 0)))⟩, ⟨(some i26), none, .move (.t i25)⟩, ⟨(some i27), (some (i26, false)), .move (.t i6)⟩, ⟨(some i28), (some (i26, false)), .fieldAddr 0 (.t i3)⟩, ⟨(some i29), (some (i26, false)), .load none (.t i28)⟩, ⟨(some i30), (some (i26, false)), .callv (.t i27) [(.t i29), (.c (.int .i64 (.ofNat 255)))]⟩, ⟨(some i31), (some (i26, false)), .not (.t i30)⟩, ⟨(some i32), none, .pick (.t i26) (.c (.bool true)) (.t i31)⟩, ⟨(some i33), none, .move (.t i32)⟩, ⟨(some i34), (some (i33, false)), .move (.t i6)⟩, ⟨(some i35), (some (i33, false)), .fieldAddr 1 (.t i3)⟩, ⟨(some i36), (some (i33, false)), .load none (.t i35)⟩, ⟨(some i37), (some (i33, false)), .callv (.t i34) [(.t i36), (.c (.int .i64 (.ofNat 1000)))]⟩, ⟨(some i38), (some (i33, false)), .not (.t i37)⟩, ⟨(some i39), none, .pick (.t i33) (.c (.bool true)) (.t i38)⟩, ⟨(some i40), none, .move (.t i39)⟩, ⟨(some i41), (some (i40, false)), .move (.t i6)⟩, ⟨(some i42), (some (i40, false)), .fieldAddr 2 (.t i3)⟩, ⟨(some i43), (some (i40, false)), .load none (.t i42)⟩, ⟨(some i44), (some (i40, false)), .callv (.t i41) [(.t i43), (.c (.int .i64 (.ofNat 32)))]⟩, ⟨(some i45), (some (i40, false)), .not (.t i44)⟩, ⟨(some i46), none, .pick (.t i40) (.c (.bool true)) (.t i45)⟩])
  (.cond (.t i46) (.seq (.region [⟨(some i4), none, .move (.c .nilptr)⟩, ⟨(some i5), none, .move (.c (.int .i64 (.ofNat 2)))⟩])
  .ret)
  .skip)))
  (.seq (.drawn [⟨0, (.r 0), ⟨(some i47), none, .load (some 3) (.t i2)⟩⟩, ⟨1, .e, ⟨(some i48), none, .call i35 [(.t i47)]⟩⟩, ⟨3, .e, ⟨(some i50), none, .call i36 []⟩⟩, ⟨4, .e, ⟨(some i51), none, .call i37 []⟩⟩, ⟨2, (.r 3), ⟨(some i49), none, .load (some 3) (.t i3)⟩⟩, ⟨5, .v, ⟨(some i52), none, .build [.nilptr, .nilslice, .nilslice, .nilslice, (.int .i64 (.ofNat 0)), (.int .i64 (.ofNat 0)), (.int .i64 (.ofNat 0)), .nilptr, .nilptr, .nilptr, .nilslice, .nilptr, .nilptr, .nilptr, .nilptr, .nilslice, (.int .i64 (.ofNat 0)), (.int .u8 (.ofNat 0)), (.int .i64 (.ofNat 0)), (.int .i64 (.ofNat 0))] [(1, 3, (.t i48)), (4, 3, (.t i49)), (13, 1, (.t i50)), (14, 1, (.t i51)), (17, 1, (.c (.int .u8 (.ofNat 1)))), (18, 1, (.c (.int .i64 (.negSucc 0))))]⟩⟩, ⟨6, .a, ⟨(some i53), none, .box (.t i52)⟩⟩, ⟨7, .v, ⟨(some i10), none, .move (.t i53)⟩⟩])
  (.seq (.region [⟨(some i55), none, .fieldAddr 0 (.t i2)⟩, ⟨(some i56), none, .load none (.t i55)⟩, ⟨(some i57), none, .lenSl (.t i56)⟩, ⟨(some i58), none, .bin .add (.t i57) (.c (.int .i64 (.ofNat 1)))⟩, ⟨(some i59), none, .bin .mul (.c (.int .i64 (.ofNat 2))) (.t i58)⟩, ⟨(some i60), none, .bin .add (.t i59) (.c (.int .i64 (.ofNat 32)))⟩, ⟨(some i61), none, .call i38 [(.t i60)]⟩, ⟨(some i54), none, .move (.t i61)⟩, ⟨(some i62), none, .extract 0 (.t i54)⟩, ⟨(some i63), none, .extract 1 (.t i54)⟩, ⟨(some i11), none, .move (.t i62)⟩, ⟨(some i12), none, .move (.t i63)⟩])
  (.seq (.region [⟨(some i64), none, .move (.t i10)⟩, ⟨(some i65), none, .move (.t i11)⟩, ⟨(some i66), none, .call i39 [(.t i64), (.t i65)]⟩])
  (.seq (.seq (.region [⟨(some i67), none, .fieldAddr 0 (.t i2)⟩, ⟨(some i68), none, .load none (.t i67)⟩, ⟨(some i69), none, .lenSl (.t i68)⟩, ⟨(some i70), none, .move (.c (.int .i64 (.ofNat 0)))⟩])
  (.block 0 (.loop (.seq (.region [⟨(some i71), none, .bin .lss (.t i70) (.t i69)⟩])
  (.seq (.cond (.t i71) .skip
  (.exit 0))
  (.seq (.block 1 (.seq (.region [⟨(some i72), none, .indexSl 1 (.t i68) (.t i70)⟩, ⟨(some i73), none, .load none (.t i72)⟩, ⟨(some i14), none, .move (.t i73)⟩])
  (.seq (.region [⟨(some i75), none, .move (.t i14)⟩, ⟨(some i76), none, .call i40 [(.t i75)]⟩, ⟨(some i74), none, .move (.t i76)⟩, ⟨(some i77), none, .extract 0 (.t i74)⟩, ⟨(some i78), none, .extract 1 (.t i74)⟩, ⟨(some i15), none, .move (.t i77)⟩, ⟨(some i16), none, .move (.t i78)⟩])
  (.region [⟨(some i79), none, .move (.t i10)⟩, ⟨(some i80), none, .move (.t i10)⟩, ⟨(some i81), none, .nilCheck (.t i80)⟩, ⟨(some i82), none, .fieldAddr 10 (.t i81)⟩, ⟨(some i83), none, .load none (.t i82)⟩, ⟨(some i84), none, .move (.t i15)⟩, ⟨(some i85), none, .buildSlice [.nilptr] 1 [(0, 1, (.t i84))]⟩, ⟨(some i86), none, .append 1 (.t i83) (.t i85)⟩, ⟨(some i87), none, .nilCheck (.t i79)⟩, ⟨(some i88), none, .fieldAddr 10 (.t i87)⟩, ⟨none, none, .store none (.t i88) (.t i86)⟩]))))
  (.region [⟨(some i89), none, .bin .add (.t i70) (.c (.int .i64 (.ofNat 1)))⟩, ⟨(some i70), none, .move (.t i89)⟩])))))))
  (.seq (.region [⟨(some i91), none, .move (.t i10)⟩, ⟨(some i92), none, .call i41 [(.c (.int .i64 (.ofNat 192)))]⟩, ⟨(some i90), none, .move (.t i92)⟩, ⟨(some i93), none, .extract 0 (.t i90)⟩, ⟨(some i94), none, .extract 1 (.t i90)⟩, ⟨(some i95), none, .nilCheck (.t i91)⟩, ⟨(some i96), none, .fieldAddr 11 (.t i95)⟩, ⟨none, none, .store none (.t i96) (.t i93)⟩])
  (.seq (.region [⟨(some i98), none, .move (.t i10)⟩, ⟨(some i99), none, .load (some 3) (.t i2)⟩, ⟨(some i100), none, .call i42 [(.t i99)]⟩, ⟨(some i97), none, .move (.t i100)⟩, ⟨(some i101), none, .extract 0 (.t i97)⟩, ⟨(some i102), none, .extract 1 (.t i97)⟩, ⟨(some i103), none, .nilCheck (.t i98)⟩, ⟨(some i104), none, .fieldAddr 12 (.t i103)⟩, ⟨none, none, .store none (.t i104) (.t i101)⟩])
  (.seq (.region [⟨(some i106), none, .move (.t i10)⟩, ⟨(some i107), none, .fieldAddr 2 (.t i3)⟩, ⟨(some i108), none, .load none (.t i107)⟩, ⟨(some i109), none, .call i4 [(.t i108)]⟩, ⟨(some i105), none, .move (.t i109)⟩, ⟨(some i110), none, .extract 0 (.t i105)⟩, ⟨(some i111), none, .extract 1 (.t i105)⟩, ⟨(some i112), none, .nilCheck (.t i106)⟩, ⟨(some i113), none, .fieldAddr 0 (.t i112)⟩, ⟨none, none, .store none (.t i113) (.t i110)⟩])
  (.seq (.drawn [⟨4, .e, ⟨(some i118), none, .call i44 [(.c (.int .i64 (.ofNat 0)))]⟩⟩, ⟨0, .v, ⟨(some i114), none, .move (.t i10)⟩⟩, ⟨1, .v, ⟨(some i115), none, .nilCheck (.t i114)⟩⟩, ⟨2, .v, ⟨(some i116), none, .fieldAddr 12 (.t i115)⟩⟩, ⟨3, (.r 1), ⟨(some i117), none, .load none (.t i116)⟩⟩, ⟨5, .e, ⟨(some i119), none, .call i43 [(.t i117), (.t i118)]⟩⟩])
  (.seq (.region [⟨(some i120), none, .move (.t i10)⟩, ⟨(some i121), none, .nilCheck (.t i120)⟩, ⟨(some i122), none, .fieldAddr 0 (.t i121)⟩, ⟨(some i123), none, .load none (.t i122)⟩, ⟨(some i124), none, .call i6 [(.t i123)]⟩])
  (.seq (.region [⟨(some i125), none, .move (.t i10)⟩, ⟨(some i126), none, .fieldAddr 0 (.t i3)⟩, ⟨(some i127), none, .load none (.t i126)⟩, ⟨(some i128), none, .mkslice [(.int .i64 (.ofNat 0)), .nilfn, .nilslice, (.int .i64 (.ofNat 0)), (.bool false), (.int .u16 (.ofNat 0)), .nilfn, .nilfn, (.bool false), (.int .i64 (.ofNat 0)), (.int .i64 (.ofNat 0)), (.int .i64 (.ofNat 0)), (.bool false), (.int .i64 (.ofNat 0)), (.int .i64 (.ofNat 0)), (.int .i64 (.ofNat 0)), (.int .u64 (.ofNat 0)), (.int .i64 (.ofNat 0)), (.int .i64 (.ofNat 0)), (.int .i64 (.ofNat 0)), (.int .i64 (.ofNat 0)), (.bool false), (.int .i64 (.ofNat 0)), (.int .u64 (.ofNat 0)), (.int .u64 (.ofNat 0)), .nilfn, .nilslice, .nilslice, (.int .i64 (.ofNat 0)), (.int .i64 (.ofNat 0)), (.bool false), (.int .i64 (.ofNat 0))] (.t i127) (.t i127)⟩, ⟨(some i129), none, .nilCheck (.t i125)⟩, ⟨(some i130), none, .fieldAddr 15 (.t i129)⟩, ⟨none, none, .store none (.t i130) (.t i128)⟩])
  (.seq (.seq (.region [⟨(some i131), none, .move (.t i10)⟩, ⟨(some i132), none, .nilCheck (.t i131)⟩, ⟨(some i133), none, .fieldAddr 15 (.t i132)⟩, ⟨(some i134), none, .load none (.t i133)⟩, ⟨(some i135), none, .lenSl (.t i134)⟩, ⟨(some i136), none, .move (.c (.int .i64 (.ofNat 0)))⟩])
  (.block 2 (.loop (.seq (.region [⟨(some i137), none, .bin .lss (.t i136) (.t i135)⟩])
  (.seq (.cond (.t i137) .skip
  (.exit 2))
  (.seq (.block 3 (.seq (.region [⟨(some i138), none, .move (.t i136)⟩, ⟨(some i17), none, .move (.t i138)⟩])
  (.seq (.region [⟨(some i139), none, .move (.t i10)⟩, ⟨(some i140), none, .nilCheck (.t i139)⟩, ⟨(some i141), none, .fieldAddr 15 (.t i140)⟩, ⟨(some i142), none, .load none (.t i141)⟩, ⟨(some i143), none, .move (.t i17)⟩, ⟨(some i144), none, .move (.t i17)⟩, ⟨(some i145), none, .indexSl 32 (.t i142) (.t i143)⟩, ⟨(some i146), none, .fieldAddr 0 (.t i145)⟩, ⟨none, none, .store none (.t i146) (.t i144)⟩])
  (.region [⟨(some i147), none, .move (.t i10)⟩, ⟨(some i148), none, .move (.t i10)⟩, ⟨(some i149), none, .nilCheck (.t i148)⟩, ⟨(some i150), none, .fieldAddr 15 (.t i149)⟩, ⟨(some i151), none, .load none (.t i150)⟩, ⟨(some i152), none, .move (.t i17)⟩, ⟨(some i153), none, .indexSl 32 (.t i151) (.t i152)⟩, ⟨(some i154), none, .call i45 [(.t i147), (.t i153)]⟩]))))
  (.region [⟨(some i155), none, .bin .add (.t i136) (.c (.int .i64 (.ofNat 1)))⟩, ⟨(some i136), none, .move (.t i155)⟩])))))))
  (.seq (.region [⟨(some i156), none, .move (.t i10)⟩, ⟨(some i4), none, .move (.t i156)⟩, ⟨(some i5), none, .move (.c (.int .i64 (.ofNat 0)))⟩])
  .ret)))))))))))))))⟩
theorem tr24 : trFunc (tyIn Tryz.prog tyn) ibn Tryz.f24 = some af24 := by kernel_rfl
theorem nm24 : (Tryz.f24.name == "runtime.NumGoroutine") = false := by kernel_rfl
theorem good24 : GoodAt Tryz.prog tyn ibn i24 af24 := goodAt Tryz.func24 tr24 nm24 rfl
def af25 : AFunc := ⟨[.cell i0 (some 3)], (.seq (.region [⟨(some i0), none, .alloc [.nilslice, .nilslice, .nilslice]⟩])
  (.seq (.region [⟨(some i1), none, .buildSlice [(.int .i64 (.ofNat 0))] 1 [(0, 1, (.c (.int .i64 (.ofNat 0))))]⟩, ⟨(some i2), none, .build [(.int .u8 (.ofNat 0)), (.int .i64 (.ofNat 0)), (.int .i64 (.ofNat 0)), (.int .i64 (.ofNat 0)), (.int .i64 (.ofNat 0))] [(0, 1, (.c (.int .u8 (.ofNat 9)))), (4, 1, (.c (.int .i64 (.ofNat 1))))]⟩, ⟨(some i3), none, .build [(.int .u8 (.ofNat 0)), (.int .i64 (.ofNat 0)), (.int .i64 (.ofNat 0)), (.int .i64 (.ofNat 0)), (.int .i64 (.ofNat 0))] [(0, 1, (.c (.int .u8 (.ofNat 5))))]⟩, ⟨(some i4), none, .build [(.int .u8 (.ofNat 0)), (.int .i64 (.ofNat 0)), (.int .i64 (.ofNat 0)), (.int .i64 (.ofNat 0)), (.int .i64 (.ofNat 0))] [(0, 1, (.c (.int .u8 (.ofNat 10))))]⟩, ⟨(some i5), none, .buildSlice [(.int .u8 (.ofNat 0)), (.int .i64 (.ofNat 0)), (.int .i64 (.ofNat 0)), (.int .i64 (.ofNat 0)), (.int .i64 (.ofNat 0)), (.int .u8 (.ofNat 0)), (.int .i64 (.ofNat 0)), (.int .i64 (.ofNat 0)), (.int .i64 (.ofNat 0)), (.int .i64 (.ofNat 0)), (.int .u8 (.ofNat 0)), (.int .i64 (.ofNat 0)), (.int .i64 (.ofNat 0)), (.int .i64 (.ofNat 0)), (.int .i64 (.ofNat 0))] 3 [(0, 5, (.t i2)), (5, 5, (.t i3)), (10, 5, (.t i4))]⟩, ⟨(some i6), none, .build [(.int .u8 (.ofNat 0)), (.int .i64 (.ofNat 0)), (.int .i64 (.ofNat 0)), (.int .i64 (.ofNat 0)), (.int .i64 (.ofNat 0))] [(0, 1, (.c (.int .u8 (.ofNat 6)))), (1, 1, (.c (.int .i64 (.ofNat 1)))), (2, 1, (.c (.int .i64 (.ofNat 2))))]⟩, ⟨(some i7), none, .build [(.int .u8 (.ofNat 0)), (.int .i64 (.ofNat 0)), (.int .i64 (.ofNat 0)), (.int .i64 (.ofNat 0)), (.int .i64 (.ofNat 0))] [(0, 1, (.c (.int .u8 (.ofNat 10))))]⟩, ⟨(some i8), none, .buildSlice [(.int .u8 (.ofNat 0)), (.int .i64 (.ofNat 0)), (.int .i64 (.ofNat 0)), (.int .i64 (.ofNat 0)), (.int .i64 (.ofNat 0)), (.int .u8 (.ofNat 0)), (.int .i64 (.ofNat 0)), (.int .i64 (.ofNat 0)), (.int .i64 (.ofNat 0)), (.int .i64 (.ofNat 0))] 2 [(0, 5, (.t i6)), (5, 5, (.t i7))]⟩, ⟨(some i9), none, .buildSlice [.nilslice, .nilslice] 2 [(0, 1, (.t i5)), (1, 1, (.t i8))]⟩, ⟨(some i10), none, .build [.nilslice, .nilslice, .nilslice] [(0, 1, (.t i1)), (1, 1, (.t i9))]⟩, ⟨none, none, .store (some 3) (.t i0) (.t i10)⟩])
  .ret))⟩
theorem tr25 : trFunc (tyIn Tryz.prog tyn) ibn Tryz.f25 = some af25 := by kernel_rfl
theorem nm25 : (Tryz.f25.name == "runtime.NumGoroutine") = false := by kernel_rfl
theorem good25 : GoodAt Tryz.prog tyn ibn i25 af25 := goodAt Tryz.func25 tr25 nm25 rfl
def af26 : AFunc := ⟨[.tmp i4], (.seq (.region [⟨(some i4), none, .move (.c (.int .i64 (.ofNat 0)))⟩])
  (.seq (.seq (.region [⟨(some i5), none, .move (.t i0)⟩, ⟨(some i6), none, .bin (.eq .ptr) (.t i5) (.c .nilptr)⟩])
  (.cond (.t i6) (.seq (.region [⟨(some i4), none, .move (.c (.int .i64 (.ofNat 0)))⟩])
  .ret)
  .skip))
  (.seq (.block 0 (.loop (.seq (.seq (.region [⟨(some i7), none, .move (.t i4)⟩, ⟨(some i8), none, .move (.t i1)⟩, ⟨(some i9), none, .lenStr (.t i8)⟩, ⟨(some i10), none, .bin .lss (.t i7) (.t i9)⟩, ⟨(some i11), none, .move (.t i10)⟩, ⟨(some i12), (some (i11, true)), .move (.t i0)⟩, ⟨(some i13), (some (i11, true)), .nilCheck (.t i12)⟩, ⟨(some i14), (some (i11, true)), .fieldAddr 17 (.t i13)⟩, ⟨(some i15), (some (i11, true)), .load none (.t i14)⟩, ⟨(some i16), (some (i11, true)), .bin (.eq .int) (.t i15) (.c (.int .u8 (.ofNat 1)))⟩, ⟨(some i17), none, .pick (.t i11) (.t i16) (.c (.bool false))⟩])
  (.cond (.t i17) .skip
  (.exit 0)))
  (.block 1 (.seq (.region [⟨(some i18), none, .move (.t i0)⟩, ⟨(some i19), none, .move (.t i1)⟩, ⟨(some i20), none, .move (.t i4)⟩, ⟨(some i21), none, .indexStr (.t i19) (.t i20)⟩, ⟨(some i22), none, .conv .i64 (.t i21)⟩, ⟨(some i23), none, .call i46 [(.t i18), (.t i22)]⟩])
  (.region [⟨(some i24), none, .move (.t i4)⟩, ⟨(some i25), none, .bin .add (.t i24) (.c (.int .i64 (.ofNat 1)))⟩, ⟨(some i4), none, .move (.t i25)⟩]))))))
  (.seq (.region [⟨(some i26), none, .move (.t i4)⟩, ⟨(some i4), none, .move (.t i26)⟩])
  .ret))))⟩
theorem tr26 : trFunc (tyIn Tryz.prog tyn) ibn Tryz.f26 = some af26 := by kernel_rfl
theorem nm26 : (Tryz.f26.name == "runtime.NumGoroutine") = false := by kernel_rfl
theorem good26 : GoodAt Tryz.prog tyn ibn i26 af26 := goodAt Tryz.func26 tr26 nm26 rfl
def af27 : AFunc := ⟨[.tmp i0], (.seq (.region [⟨(some i0), none, .move (.c (.str []))⟩])
  (.seq (.region [⟨(some i1), none, .mkslice [(.int .u8 (.ofNat 0))] (.c (.int .i64 (.ofNat 60000))) (.c (.int .i64 (.ofNat 60000)))⟩, ⟨(some i2), none, .toStr (.t i1)⟩, ⟨(some i0), none, .move (.t i2)⟩])
  .ret))⟩
theorem tr27 : trFunc (tyIn Tryz.prog tyn) ibn Tryz.f27 = some af27 := by kernel_rfl
theorem nm27 : (Tryz.f27.name == "runtime.NumGoroutine") = false := by kernel_rfl
theorem good27 : GoodAt Tryz.prog tyn ibn i27 af27 := goodAt Tryz.func27 tr27 nm27 rfl
def af28 : AFunc := ⟨[.tmp i2], (.seq (.region [⟨(some i2), none, .move (.c (.int .u8 (.ofNat 0)))⟩])
  (.seq (.seq (.region [⟨(some i3), none, .move (.t i0)⟩, ⟨(some i4), none, .bin (.eq .ptr) (.t i3) (.c .nilptr)⟩])
  (.cond (.t i4) (.seq (.region [⟨(some i2), none, .move (.c (.int .u8 (.ofNat 0)))⟩])
  .ret)
  .skip))
  (.seq (.region [⟨(some i5), none, .move (.t i0)⟩, ⟨(some i6), none, .nilCheck (.t i5)⟩, ⟨(some i7), none, .fieldAddr 17 (.t i6)⟩, ⟨(some i8), none, .load none (.t i7)⟩, ⟨(some i2), none, .move (.t i8)⟩])
  .ret)))⟩
theorem tr28 : trFunc (tyIn Tryz.prog tyn) ibn Tryz.f28 = some af28 := by kernel_rfl
theorem nm28 : (Tryz.f28.name == "runtime.NumGoroutine") = false := by kernel_rfl
theorem good28 : GoodAt Tryz.prog tyn ibn i28 af28 := goodAt Tryz.func28 tr28 nm28 rfl
def af29 : AFunc := ⟨[.tmp i2], (.seq (.region [⟨(some i2), none, .move (.c .nilslice)⟩])
  (.seq (.region [⟨(some i4), none, .move (.t i0)⟩, ⟨(some i5), none, .call i47 [(.t i4)]⟩, ⟨(some i3), none, .move (.t i5)⟩])
  (.seq (.seq (.region [⟨(some i6), none, .move (.t i3)⟩, ⟨(some i7), none, .bin (.eq .ptr) (.t i6) (.c .nilptr)⟩])
  (.cond (.t i7) (.seq (.region [⟨(some i2), none, .move (.c .nilslice)⟩])
  .ret)
  .skip))
  (.seq (.region [⟨(some i8), none, .move (.t i3)⟩, ⟨(some i9), none, .call i48 [(.t i8)]⟩, ⟨(some i2), none, .move (.t i9)⟩])
  .ret))))⟩
theorem tr29 : trFunc (tyIn Tryz.prog tyn) ibn Tryz.f29 = some af29 := by kernel_rfl
theorem nm29 : (Tryz.f29.name == "runtime.NumGoroutine") = false := by kernel_rfl
theorem good29 : GoodAt Tryz.prog tyn ibn i29 af29 := goodAt Tryz.func29 tr29 nm29 rfl
def af30 : AFunc := ⟨[.tmp i4], (.seq (.region [⟨(some i4), none, .move (.c (.bool false))⟩])
  (.seq (.region [⟨(some i5), none, .move (.t i0)⟩, ⟨(some i6), none, .move (.t i1)⟩, ⟨(some i7), none, .call i49 [(.t i5), (.t i6)]⟩, ⟨(some i8), none, .bin .geq (.t i7) (.c (.int .i64 (.ofNat 0)))⟩, ⟨(some i4), none, .move (.t i8)⟩])
  .ret))⟩
theorem tr30 : trFunc (tyIn Tryz.prog tyn) ibn Tryz.f30 = some af30 := by kernel_rfl
theorem nm30 : (Tryz.f30.name == "runtime.NumGoroutine") = false := by kernel_rfl
theorem good30 : GoodAt Tryz.prog tyn ibn i30 af30 := goodAt Tryz.func30 tr30 nm30 rfl
def af31 : AFunc := ⟨[.tmp i4], (.seq (.region [⟨(some i4), none, .move (.c (.int .i64 (.ofNat 0)))⟩])
  (.seq (.region [⟨(some i5), none, .move (.t i0)⟩, ⟨(some i6), none, .nilCheck (.t i5)⟩, ⟨(some i7), none, .fieldAddr 32 (.t i6)⟩, ⟨(some i8), none, .load none (.t i7)⟩, ⟨(some i9), none, .move (.t i1)⟩, ⟨(some i10), none, .bin .add (.t i8) (.t i9)⟩, ⟨(some i11), none, .bin .rem (.t i10) (.c (.int .i64 (.ofNat 32)))⟩, ⟨(some i4), none, .move (.t i11)⟩])
  .ret))⟩
theorem tr31 : trFunc (tyIn Tryz.prog tyn) ibn Tryz.f31 = some af31 := by kernel_rfl
theorem nm31 : (Tryz.f31.name == "runtime.NumGoroutine") = false := by kernel_rfl
theorem good31 : GoodAt Tryz.prog tyn ibn i31 af31 := goodAt Tryz.func31 tr31 nm31 rfl
def af32 : AFunc := ⟨[], (.seq (.region [⟨(some i5), none, .move (.t i0)⟩, ⟨(some i6), none, .nilCheck (.t i5)⟩, ⟨(some i7), none, .fieldAddr 33 (.t i6)⟩, ⟨(some i8), none, .load none (.t i7)⟩, ⟨(some i9), none, .move (.c (.int .i64 (.ofNat 0)))⟩])
  (.block 0 (.loop (.seq (.region [⟨(some i10), none, .bin .lss (.t i9) (.t i8)⟩])
  (.seq (.cond (.t i10) .skip
  (.exit 0))
  (.seq (.block 1 (.seq (.region [⟨(some i11), none, .move (.t i9)⟩, ⟨(some i4), none, .move (.t i11)⟩])
  (.seq (.drawn [⟨3, .v, ⟨(some i15), none, .move (.t i0)⟩⟩, ⟨4, .v, ⟨(some i16), none, .move (.t i4)⟩⟩, ⟨5, .e, ⟨(some i17), none, .call i31 [(.t i15), (.t i16)]⟩⟩, ⟨0, .v, ⟨(some i12), none, .move (.t i1)⟩⟩, ⟨1, .v, ⟨(some i13), none, .move (.t i4)⟩⟩, ⟨2, .v, ⟨(some i14), none, .move (.t i0)⟩⟩, ⟨6, .v, ⟨(some i18), none, .nilCheck (.t i14)⟩⟩, ⟨7, .v, ⟨(some i19), none, .fieldAddr 0 (.t i18)⟩⟩, ⟨8, .v, ⟨(some i20), none, .indexArr 32 1 (.t i19) (.t i17)⟩⟩, ⟨9, (.r 0), ⟨(some i21), none, .load none (.t i20)⟩⟩, ⟨10, .e, ⟨(some i22), none, .callv (.t i12) [(.t i13), (.t i21)]⟩⟩, ⟨11, .v, ⟨(some i23), none, .not (.t i22)⟩⟩])
  (.cond (.t i23) .ret
  .skip))))
  (.region [⟨(some i24), none, .bin .add (.t i9) (.c (.int .i64 (.ofNat 1)))⟩, ⟨(some i9), none, .move (.t i24)⟩])))))))⟩
theorem tr32 : trFunc (tyIn Tryz.prog tyn) ibn Tryz.f32 = some af32 := by kernel_rfl
theorem nm32 : (Tryz.f32.name == "runtime.NumGoroutine") = false := by kernel_rfl
theorem good32 : GoodAt Tryz.prog tyn ibn i32 af32 := goodAt Tryz.func32 tr32 nm32 rfl
def af33 : AFunc := ⟨[.tmp i4], (.seq (.region [⟨(some i4), none, .move (.c (.bool false))⟩])
  (.seq (.region [⟨(some i5), none, .move (.t i0)⟩, ⟨(some i6), none, .bin .geq (.t i5) (.c (.int .i64 (.ofNat 1)))⟩, ⟨(some i7), none, .move (.t i6)⟩, ⟨(some i8), (some (i7, true)), .move (.t i0)⟩, ⟨(some i9), (some (i7, true)), .move (.t i1)⟩, ⟨(some i10), (some (i7, true)), .bin .leq (.t i8) (.t i9)⟩, ⟨(some i11), none, .pick (.t i7) (.t i10) (.c (.bool false))⟩, ⟨(some i4), none, .move (.t i11)⟩])
  .ret))⟩
theorem tr33 : trFunc (tyIn Tryz.prog tyn) ibn Tryz.f33 = some af33 := by kernel_rfl
theorem nm33 : (Tryz.f33.name == "runtime.NumGoroutine") = false := by kernel_rfl
theorem good33 : GoodAt Tryz.prog tyn ibn i33 af33 := goodAt Tryz.func33 tr33 nm33 rfl
def af34 : AFunc := ⟨[.cell i2 none, .cell i3 none, .cell i4 none], (.seq (.region [⟨(some i1), none, .box (.t i0)⟩, ⟨(some i2), none, .alloc [(.int .i64 (.ofNat 0))]⟩, ⟨(some i3), none, .alloc [(.int .i64 (.ofNat 0))]⟩, ⟨(some i4), none, .alloc [(.int .i64 (.ofNat 0))]⟩])
  (.seq (.region [⟨(some i8), none, .mkfn i50 [] [(.t i2), (.t i3), (.t i4)]⟩, ⟨none, none, .defer (.t i8) []⟩])
  (.seq (.region [⟨(some i9), none, .load (some 3) (.t i1)⟩, ⟨(some i10), none, .build [.nilslice, .nilslice, .nilslice] [(0, 3, (.t i9))]⟩, ⟨(some i5), none, .alloc [.nilslice, .nilslice, .nilslice]⟩, ⟨none, none, .store (some 3) (.t i5) (.t i10)⟩])
  (.seq (.seq (.region [⟨(some i11), none, .load (some 3) (.t i5)⟩, ⟨(some i12), none, .mkfn i51 [(.t i11)] []⟩, ⟨(some i13), none, .build [.nilfn] [(0, 1, (.t i12))]⟩, ⟨(some i14), none, .load (some 3) (.t i5)⟩, ⟨(some i15), none, .mkfn i52 [(.t i14)] []⟩, ⟨(some i16), none, .build [.nilfn] [(0, 1, (.t i15))]⟩, ⟨(some i17), none, .load (some 3) (.t i5)⟩, ⟨(some i18), none, .mkfn i53 [(.t i17)] []⟩, ⟨(some i19), none, .build [.nilfn] [(0, 1, (.t i18))]⟩, ⟨(some i20), none, .load (some 3) (.t i5)⟩, ⟨(some i21), none, .mkfn i54 [(.t i20)] []⟩, ⟨(some i22), none, .build [.nilfn] [(0, 1, (.t i21))]⟩, ⟨(some i23), none, .buildSlice [.nilfn, .nilfn, .nilfn, .nilfn] 4 [(0, 1, (.t i13)), (1, 1, (.t i16)), (2, 1, (.t i19)), (3, 1, (.t i22))]⟩, ⟨(some i24), none, .lenSl (.t i23)⟩, ⟨(some i25), none, .move (.c (.int .i64 (.ofNat 0)))⟩])
  (.block 0 (.loop (.seq (.region [⟨(some i26), none, .bin .lss (.t i25) (.t i24)⟩])
  (.seq (.cond (.t i26) .skip
  (.exit 0))
  (.seq (.block 1 (.seq (.region [⟨(some i27), none, .indexSl 1 (.t i23) (.t i25)⟩, ⟨(some i28), none, .load (some 1) (.t i27)⟩, ⟨(some i7), none, .alloc [.nilfn]⟩, ⟨none, none, .store (some 1) (.t i7) (.t i28)⟩])
  (.region [⟨(some i29), none, .fieldAddr 0 (.t i7)⟩, ⟨(some i30), none, .load none (.t i29)⟩, ⟨(some i31), none, .callv (.t i30) []⟩])))
  (.region [⟨(some i32), none, .bin .add (.t i25) (.c (.int .i64 (.ofNat 1)))⟩, ⟨(some i25), none, .move (.t i32)⟩])))))))
  (.seq (.region [⟨none, none, .store none (.t i2) (.c (.int .i64 (.ofNat 0)))⟩, ⟨none, none, .store none (.t i3) (.c (.int .i64 (.ofNat 0)))⟩, ⟨none, none, .store none (.t i4) (.c (.int .i64 (.ofNat 0)))⟩])
  .ret)))))⟩
theorem tr34 : trFunc (tyIn Tryz.prog tyn) ibn Tryz.f34 = some af34 := by kernel_rfl
theorem nm34 : (Tryz.f34.name == "runtime.NumGoroutine") = false := by kernel_rfl
theorem good34 : GoodAt Tryz.prog tyn ibn i34 af34 := goodAt Tryz.func34 tr34 nm34 rfl
def af35 : AFunc := ⟨[.cell i2 (some 3)], (.seq (.region [⟨(some i1), none, .box (.t i0)⟩, ⟨(some i2), none, .alloc [.nilslice, .nilslice, .nilslice]⟩])
  (.seq (.region [⟨(some i7), none, .fieldAddr 0 (.t i1)⟩, ⟨(some i8), none, .load none (.t i7)⟩, ⟨(some i9), none, .call i55 [(.t i8)]⟩, ⟨(some i10), none, .fieldAddr 0 (.t i2)⟩, ⟨none, none, .store none (.t i10) (.t i9)⟩])
  (.seq (.seq (.region [⟨(some i11), none, .fieldAddr 1 (.t i1)⟩, ⟨(some i12), none, .load none (.t i11)⟩, ⟨(some i13), none, .lenSl (.t i12)⟩, ⟨(some i14), none, .move (.c (.int .i64 (.ofNat 0)))⟩])
  (.block 0 (.loop (.seq (.region [⟨(some i15), none, .bin .lss (.t i14) (.t i13)⟩])
  (.seq (.cond (.t i15) .skip
  (.exit 0))
  (.seq (.block 1 (.seq (.region [⟨(some i16), none, .indexSl 1 (.t i12) (.t i14)⟩, ⟨(some i17), none, .load none (.t i16)⟩, ⟨(some i4), none, .move (.t i17)⟩])
  (.drawn [⟨2, .v, ⟨(some i20), none, .move (.t i4)⟩⟩, ⟨3, .e, ⟨(some i21), none, .call i56 [(.t i20)]⟩⟩, ⟨0, .v, ⟨(some i18), none, .fieldAddr 1 (.t i2)⟩⟩, ⟨1, (.r 1), ⟨(some i19), none, .load none (.t i18)⟩⟩, ⟨4, .a, ⟨(some i22), none, .buildSlice [.nilslice] 1 [(0, 1, (.t i21))]⟩⟩, ⟨5, .e, ⟨(some i23), none, .append 1 (.t i19) (.t i22)⟩⟩, ⟨6, .v, ⟨(some i24), none, .fieldAddr 1 (.t i2)⟩⟩, ⟨7, .e, ⟨none, none, .store none (.t i24) (.t i23)⟩⟩])))
  (.region [⟨(some i25), none, .bin .add (.t i14) (.c (.int .i64 (.ofNat 1)))⟩, ⟨(some i14), none, .move (.t i25)⟩])))))))
  (.seq (.seq (.region [⟨(some i26), none, .fieldAddr 2 (.t i1)⟩, ⟨(some i27), none, .load none (.t i26)⟩, ⟨(some i28), none, .lenSl (.t i27)⟩, ⟨(some i29), none, .move (.c (.int .i64 (.ofNat 0)))⟩])
  (.block 2 (.loop (.seq (.region [⟨(some i30), none, .bin .lss (.t i29) (.t i28)⟩])
  (.seq (.cond (.t i30) .skip
  (.exit 2))
  (.seq (.block 3 (.seq (.region [⟨(some i31), none, .indexSl 2 (.t i27) (.t i29)⟩, ⟨(some i32), none, .load (some 2) (.t i31)⟩, ⟨(some i6), none, .alloc [.nilslice, (.bool false)]⟩, ⟨none, none, .store (some 2) (.t i6) (.t i32)⟩])
  (.drawn [⟨2, .v, ⟨(some i35), none, .fieldAddr 0 (.t i6)⟩⟩, ⟨3, (.r 0), ⟨(some i36), none, .load none (.t i35)⟩⟩, ⟨4, .e, ⟨(some i37), none, .call i57 [(.t i36)]⟩⟩, ⟨0, .v, ⟨(some i33), none, .fieldAddr 2 (.t i2)⟩⟩, ⟨1, (.r 1), ⟨(some i34), none, .load none (.t i33)⟩⟩, ⟨5, .v, ⟨(some i38), none, .fieldAddr 1 (.t i6)⟩⟩, ⟨6, (.r 1), ⟨(some i39), none, .load none (.t i38)⟩⟩, ⟨7, .v, ⟨(some i40), none, .build [.nilslice, (.bool false)] [(0, 1, (.t i37)), (1, 1, (.t i39))]⟩⟩, ⟨8, .a, ⟨(some i41), none, .buildSlice [.nilslice, (.bool false)] 1 [(0, 2, (.t i40))]⟩⟩, ⟨9, .e, ⟨(some i42), none, .append 2 (.t i34) (.t i41)⟩⟩, ⟨10, .v, ⟨(some i43), none, .fieldAddr 2 (.t i2)⟩⟩, ⟨11, .e, ⟨none, none, .store none (.t i43) (.t i42)⟩⟩])))
  (.region [⟨(some i44), none, .bin .add (.t i29) (.c (.int .i64 (.ofNat 1)))⟩, ⟨(some i29), none, .move (.t i44)⟩])))))))
  (.seq (.region [⟨(some i45), none, .load (some 3) (.t i2)⟩, ⟨none, none, .store (some 3) (.t i2) (.t i45)⟩])
  .ret)))))⟩
theorem tr35 : trFunc (tyIn Tryz.prog tyn) ibn Tryz.f35 = some af35 := by kernel_rfl
theorem nm35 : (Tryz.f35.name == "runtime.NumGoroutine") = false := by kernel_rfl
theorem good35 : GoodAt Tryz.prog tyn ibn i35 af35 := goodAt Tryz.func35 tr35 nm35 rfl
def af36 : AFunc := ⟨[.tmp i0], (.seq (.region [⟨(some i0), none, .move (.c .nilptr)⟩])
  (.seq (.region [⟨(some i1), none, .build [(.bool false), .nilptr, (.bool false), .nilptr, (.bool false), .nilptr, (.bool false), .nilptr, (.bool false), .nilptr, (.bool false), .nilptr, (.bool false), .nilptr, (.bool false), .nilptr, (.bool false), .nilptr, (.bool false), .nilptr, (.bool false), .nilptr, (.bool false), .nilptr, (.bool false), .nilptr, (.bool false), .nilptr, (.bool false), .nilptr, (.bool false), .nilptr, (.bool false), .nilptr, (.bool false), .nilptr, (.bool false), .nilptr, (.bool false), .nilptr, (.bool false), .nilptr, (.bool false), .nilptr, (.bool false), .nilptr, (.bool false), .nilptr, (.bool false), .nilptr, (.bool false), .nilptr, (.bool false), .nilptr, (.bool false), .nilptr, (.bool false), .nilptr, (.bool false), .nilptr, (.bool false), .nilptr, (.bool false), .nilptr] []⟩, ⟨(some i2), none, .box (.t i1)⟩, ⟨(some i0), none, .move (.t i2)⟩])
  .ret))⟩
theorem tr36 : trFunc (tyIn Tryz.prog tyn) ibn Tryz.f36 = some af36 := by kernel_rfl
theorem nm36 : (Tryz.f36.name == "runtime.NumGoroutine") = false := by kernel_rfl
theorem good36 : GoodAt Tryz.prog tyn ibn i36 af36 := goodAt Tryz.func36 tr36 nm36 rfl
def af37 : AFunc := ⟨[.tmp i0], (.seq (.region [⟨(some i0), none, .move (.c .nilptr)⟩])
  (.seq (.region [⟨(some i1), none, .build [.nilslice] []⟩, ⟨(some i2), none, .box (.t i1)⟩, ⟨(some i0), none, .move (.t i2)⟩])
  .ret))⟩
theorem tr37 : trFunc (tyIn Tryz.prog tyn) ibn Tryz.f37 = some af37 := by kernel_rfl
theorem nm37 : (Tryz.f37.name == "runtime.NumGoroutine") = false := by kernel_rfl
theorem good37 : GoodAt Tryz.prog tyn ibn i37 af37 := goodAt Tryz.func37 tr37 nm37 rfl
def af38 : AFunc := ⟨[.tmp i2, .tmp i3], (.seq (.region [⟨(some i2), none, .move (.c .nilptr)⟩, ⟨(some i3), none, .move (.c (.int .i64 (.ofNat 0)))⟩])
  (.seq (.seq (.region [⟨(some i4), none, .move (.t i0)⟩, ⟨(some i5), none, .bin .lss (.t i4) (.c (.int .i64 (.ofNat 1)))⟩, ⟨(some i6), none, .move (.t i5)⟩, ⟨(some i7), (some (i6, false)), .move (.t i0)⟩, ⟨(some i8), (some (i6, false)), .bin .gtr (.t i7) (.c (.int .i64 (.ofNat 4096)))⟩, ⟨(some i9), none, .pick (.t i6) (.c (.bool true)) (.t i8)⟩])
  (.cond (.t i9) (.seq (.region [⟨(some i2), none, .move (.c .nilptr)⟩, ⟨(some i3), none, .move (.c (.int .i64 (.ofNat 2)))⟩])
  .ret)
  .skip))
  (.seq (.region [⟨(some i10), none, .move (.t i0)⟩, ⟨(some i11), none, .mkslice [(.int .u64 (.ofNat 0))] (.t i10) (.t i10)⟩, ⟨(some i12), none, .build [.nilslice, (.int .u64 (.ofNat 0))] [(0, 1, (.t i11))]⟩, ⟨(some i13), none, .box (.t i12)⟩, ⟨(some i2), none, .move (.t i13)⟩, ⟨(some i3), none, .move (.c (.int .i64 (.ofNat 0)))⟩])
  .ret)))⟩
theorem tr38 : trFunc (tyIn Tryz.prog tyn) ibn Tryz.f38 = some af38 := by kernel_rfl
theorem nm38 : (Tryz.f38.name == "runtime.NumGoroutine") = false := by kernel_rfl
theorem good38 : GoodAt Tryz.prog tyn ibn i38 af38 := goodAt Tryz.func38 tr38 nm38 rfl
def af39 : AFunc := ⟨[], (.seq (.region [⟨(some i5), none, .move (.t i0)⟩, ⟨(some i6), none, .nilCheck (.t i5)⟩, ⟨(some i7), none, .fieldAddr 1 (.t i6)⟩, ⟨(some i8), none, .fieldAddr 0 (.t i7)⟩, ⟨(some i9), none, .load none (.t i8)⟩, ⟨(some i10), none, .lenSl (.t i9)⟩, ⟨(some i11), none, .bin .add (.t i10) (.c (.int .i64 (.ofNat 1)))⟩, ⟨(some i4), none, .move (.t i11)⟩])
  (.seq (.region [⟨(some i12), none, .move (.t i0)⟩, ⟨(some i13), none, .move (.t i1)⟩, ⟨(some i14), none, .nilCheck (.t i12)⟩, ⟨(some i15), none, .fieldAddr 7 (.t i14)⟩, ⟨none, none, .store none (.t i15) (.t i13)⟩])
  (.seq (.region [⟨(some i17), none, .move (.t i0)⟩, ⟨(some i18), none, .move (.t i1)⟩, ⟨(some i19), none, .move (.t i4)⟩, ⟨(some i20), none, .call i58 [(.t i18), (.c (.int .i64 (.ofNat 0))), (.t i19)]⟩, ⟨(some i16), none, .move (.t i20)⟩, ⟨(some i21), none, .extract 0 (.t i16)⟩, ⟨(some i22), none, .extract 1 (.t i16)⟩, ⟨(some i23), none, .nilCheck (.t i17)⟩, ⟨(some i24), none, .fieldAddr 8 (.t i23)⟩, ⟨none, none, .store none (.t i24) (.t i21)⟩])
  (.region [⟨(some i26), none, .move (.t i0)⟩, ⟨(some i27), none, .move (.t i1)⟩, ⟨(some i28), none, .move (.t i4)⟩, ⟨(some i29), none, .bin .mul (.c (.int .i64 (.ofNat 2))) (.t i28)⟩, ⟨(some i30), none, .call i59 [(.t i27), (.t i29), (.c (.int .i64 (.ofNat 32)))]⟩, ⟨(some i25), none, .move (.t i30)⟩, ⟨(some i31), none, .extract 0 (.t i25)⟩, ⟨(some i32), none, .extract 1 (.t i25)⟩, ⟨(some i33), none, .nilCheck (.t i26)⟩, ⟨(some i34), none, .fieldAddr 9 (.t i33)⟩, ⟨none, none, .store none (.t i34) (.t i31)⟩]))))⟩
theorem tr39 : trFunc (tyIn Tryz.prog tyn) ibn Tryz.f39 = some af39 := by kernel_rfl
theorem nm39 : (Tryz.f39.name == "runtime.NumGoroutine") = false := by kernel_rfl
theorem good39 : GoodAt Tryz.prog tyn ibn i39 af39 := goodAt Tryz.func39 tr39 nm39 rfl
def af40 : AFunc := ⟨[.tmp i2, .tmp i3], (.seq (.region [⟨(some i2), none, .move (.c .nilptr)⟩, ⟨(some i3), none, .move (.c (.int .i64 (.ofNat 0)))⟩])
  (.seq (.region [⟨(some i7), none, .move (.t i0)⟩, ⟨(some i8), none, .call i60 [(.t i7)]⟩, ⟨(some i6), none, .move (.t i8)⟩, ⟨(some i9), none, .extract 0 (.t i6)⟩, ⟨(some i10), none, .extract 1 (.t i6)⟩, ⟨(some i4), none, .move (.t i9)⟩, ⟨(some i5), none, .move (.t i10)⟩])
  (.seq (.seq (.region [⟨(some i11), none, .move (.t i5)⟩, ⟨(some i12), none, .bin (.ne .int) (.t i11) (.c (.int .i64 (.ofNat 0)))⟩])
  (.cond (.t i12) (.seq (.region [⟨(some i13), none, .move (.t i5)⟩, ⟨(some i2), none, .move (.c .nilptr)⟩, ⟨(some i3), none, .move (.t i13)⟩])
  .ret)
  .skip))
  (.seq (.region [⟨(some i14), none, .move (.t i4)⟩, ⟨(some i15), none, .call i61 []⟩, ⟨(some i16), none, .call i61 []⟩, ⟨(some i17), none, .build [.nilptr, .nilptr] [(0, 1, (.t i15)), (1, 1, (.t i16))]⟩, ⟨(some i18), none, .build [.nilptr, .nilptr, .nilptr, (.bool false)] [(0, 1, (.t i14)), (1, 2, (.t i17))]⟩, ⟨(some i19), none, .box (.t i18)⟩, ⟨(some i2), none, .move (.t i19)⟩, ⟨(some i3), none, .move (.c (.int .i64 (.ofNat 0)))⟩])
  .ret))))⟩
theorem tr40 : trFunc (tyIn Tryz.prog tyn) ibn Tryz.f40 = some af40 := by kernel_rfl
theorem nm40 : (Tryz.f40.name == "runtime.NumGoroutine") = false := by kernel_rfl
theorem good40 : GoodAt Tryz.prog tyn ibn i40 af40 := goodAt Tryz.func40 tr40 nm40 rfl
def af41 : AFunc := ⟨[.tmp i2, .tmp i3], (.seq (.region [⟨(some i2), none, .move (.c .nilptr)⟩, ⟨(some i3), none, .move (.c (.int .i64 (.ofNat 0)))⟩])
  (.seq (.seq (.region [⟨(some i6), none, .move (.t i0)⟩, ⟨(some i7), none, .bin .lss (.t i6) (.c (.int .i64 (.ofNat 1)))⟩, ⟨(some i8), none, .move (.t i7)⟩, ⟨(some i9), (some (i8, false)), .move (.t i0)⟩, ⟨(some i10), (some (i8, false)), .bin .gtr (.t i9) (.c (.int .i64 (.ofNat 1024)))⟩, ⟨(some i11), none, .pick (.t i8) (.c (.bool true)) (.t i10)⟩])
  (.cond (.t i11) (.seq (.region [⟨(some i2), none, .move (.c .nilptr)⟩, ⟨(some i3), none, .move (.c (.int .i64 (.ofNat 2)))⟩])
  .ret)
  .skip))
  (.seq (.region [⟨(some i12), none, .build [.nilslice, (.int .i64 (.ofNat 0)), (.int .i64 (.ofNat 0))] []⟩, ⟨(some i13), none, .box (.t i12)⟩, ⟨(some i4), none, .move (.t i13)⟩])
  (.seq (.seq (.region [⟨(some i14), none, .move (.t i0)⟩, ⟨(some i15), none, .move (.c (.int .i64 (.ofNat 0)))⟩])
  (.block 0 (.loop (.seq (.region [⟨(some i16), none, .bin .lss (.t i15) (.t i14)⟩])
  (.seq (.cond (.t i16) .skip
  (.exit 0))
  (.seq (.block 1 (.seq (.region [⟨(some i17), none, .move (.t i15)⟩, ⟨(some i5), none, .move (.t i17)⟩])
  (.region [⟨(some i18), none, .move (.t i4)⟩, ⟨(some i19), none, .move (.t i4)⟩, ⟨(some i20), none, .nilCheck (.t i19)⟩, ⟨(some i21), none, .fieldAddr 0 (.t i20)⟩, ⟨(some i22), none, .load none (.t i21)⟩, ⟨(some i23), none, .move (.t i5)⟩, ⟨(some i24), none, .bin .add (.t i23) (.c (.int .i64 (.ofNat 1)))⟩, ⟨(some i25), none, .build [(.bool false), (.int .i64 (.ofNat 0)), (.int .i64 (.ofNat 0)), (.bool false), (.int .i64 (.ofNat 0)), (.int .u64 (.ofNat 0)), (.int .i64 (.ofNat 0))] [(6, 1, (.t i24))]⟩, ⟨(some i26), none, .buildSlice [(.bool false), (.int .i64 (.ofNat 0)), (.int .i64 (.ofNat 0)), (.bool false), (.int .i64 (.ofNat 0)), (.int .u64 (.ofNat 0)), (.int .i64 (.ofNat 0))] 1 [(0, 7, (.t i25))]⟩, ⟨(some i27), none, .append 7 (.t i22) (.t i26)⟩, ⟨(some i28), none, .nilCheck (.t i18)⟩, ⟨(some i29), none, .fieldAddr 0 (.t i28)⟩, ⟨none, none, .store none (.t i29) (.t i27)⟩])))
  (.region [⟨(some i30), none, .bin .add (.t i15) (.c (.int .i64 (.ofNat 1)))⟩, ⟨(some i15), none, .move (.t i30)⟩])))))))
  (.seq (.region [⟨(some i31), none, .move (.t i4)⟩, ⟨(some i32), none, .nilCheck (.t i31)⟩, ⟨(some i33), none, .fieldAddr 0 (.t i32)⟩, ⟨(some i34), none, .load none (.t i33)⟩, ⟨(some i35), none, .move (.t i0)⟩, ⟨(some i36), none, .bin .sub (.t i35) (.c (.int .i64 (.ofNat 1)))⟩, ⟨(some i37), none, .indexSl 7 (.t i34) (.t i36)⟩, ⟨(some i38), none, .fieldAddr 6 (.t i37)⟩, ⟨none, none, .store none (.t i38) (.c (.int .i64 (.negSucc 0)))⟩])
  (.seq (.region [⟨(some i39), none, .move (.t i4)⟩, ⟨(some i2), none, .move (.t i39)⟩, ⟨(some i3), none, .move (.c (.int .i64 (.ofNat 0)))⟩])
  .ret))))))⟩
theorem tr41 : trFunc (tyIn Tryz.prog tyn) ibn Tryz.f41 = some af41 := by kernel_rfl
theorem nm41 : (Tryz.f41.name == "runtime.NumGoroutine") = false := by kernel_rfl
theorem good41 : GoodAt Tryz.prog tyn ibn i41 af41 := goodAt Tryz.func41 tr41 nm41 rfl
def af42 : AFunc := ⟨[.tmp i2, .tmp i3], (.seq (.region [⟨(some i1), none, .box (.t i0)⟩, ⟨(some i2), none, .move (.c .nilptr)⟩, ⟨(some i3), none, .move (.c (.int .i64 (.ofNat 0)))⟩])
  (.seq (.seq (.region [⟨(some i8), none, .load (some 3) (.t i1)⟩, ⟨(some i9), none, .call i34 [(.t i8)]⟩, ⟨(some i7), none, .move (.t i9)⟩, ⟨(some i10), none, .extract 0 (.t i7)⟩, ⟨(some i11), none, .extract 1 (.t i7)⟩, ⟨(some i12), none, .extract 2 (.t i7)⟩, ⟨(some i4), none, .move (.t i10)⟩, ⟨(some i5), none, .move (.t i11)⟩, ⟨(some i6), none, .move (.t i12)⟩])
  (.seq (.region [⟨(some i13), none, .move (.t i6)⟩, ⟨(some i14), none, .bin (.ne .int) (.t i13) (.c (.int .i64 (.ofNat 0)))⟩])
  (.cond (.t i14) (.seq (.region [⟨(some i2), none, .move (.c .nilptr)⟩, ⟨(some i3), none, .move (.c (.int .i64 (.ofNat 2)))⟩])
  .ret)
  .skip)))
  (.seq (.region [⟨(some i15), none, .load (some 3) (.t i1)⟩, ⟨(some i16), none, .call i35 [(.t i15)]⟩, ⟨(some i17), none, .build [.nilslice, .nilslice, .nilslice, .nilslice] [(0, 3, (.t i16))]⟩, ⟨(some i18), none, .box (.t i17)⟩, ⟨(some i2), none, .move (.t i18)⟩, ⟨(some i3), none, .move (.c (.int .i64 (.ofNat 0)))⟩])
  .ret)))⟩
theorem tr42 : trFunc (tyIn Tryz.prog tyn) ibn Tryz.f42 = some af42 := by kernel_rfl
theorem nm42 : (Tryz.f42.name == "runtime.NumGoroutine") = false := by kernel_rfl
theorem good42 : GoodAt Tryz.prog tyn ibn i42 af42 := goodAt Tryz.func42 tr42 nm42 rfl
def af43 : AFunc := ⟨[.tmp i4, .tmp i5], (.seq (.region [⟨(some i3), none, .box (.t i1)⟩, ⟨(some i4), none, .move (.c (.int .i64 (.ofNat 0)))⟩, ⟨(some i5), none, .move (.c (.int .i64 (.ofNat 0)))⟩])
  (.seq (.block 0 (.seq (.region [⟨(some i12), none, .move (.t i0)⟩, ⟨(some i13), none, .bin (.eq .ptr) (.t i12) (.c .nilptr)⟩, ⟨(some i11), none, .move (.t i13)⟩])
  (.cond (.t i11) (.seq (.region [⟨(some i4), none, .move (.c (.int .i64 (.ofNat 0)))⟩, ⟨(some i5), none, .move (.c (.int .i64 (.ofNat 1)))⟩])
  .ret)
  (.seq (.drawn [⟨0, .v, ⟨(some i15), none, .move (.t i0)⟩⟩, ⟨1, .v, ⟨(some i16), none, .nilCheck (.t i15)⟩⟩, ⟨2, .v, ⟨(some i17), none, .fieldAddr 0 (.t i16)⟩⟩, ⟨3, (.r 0), ⟨(some i18), none, .load (some 3) (.t i17)⟩⟩, ⟨4, (.r 0), ⟨(some i19), none, .load (some 10) (.t i3)⟩⟩, ⟨5, .e, ⟨(some i20), none, .call i62 [(.t i18), (.t i19)]⟩⟩, ⟨6, .v, ⟨(some i21), none, .bin (.ne .int) (.t i20) (.c (.int .i64 (.ofNat 0)))⟩⟩, ⟨7, .v, ⟨(some i14), none, .move (.t i21)⟩⟩])
  (.cond (.t i14) (.seq (.region [⟨(some i4), none, .move (.c (.int .i64 (.ofNat 0)))⟩, ⟨(some i5), none, .move (.c (.int .i64 (.ofNat 2)))⟩])
  .ret)
  (.seq (.region [⟨(some i23), none, .move (.t i0)⟩, ⟨(some i24), none, .nilCheck (.t i23)⟩, ⟨(some i25), none, .fieldAddr 3 (.t i24)⟩, ⟨(some i26), none, .load none (.t i25)⟩, ⟨(some i27), none, .lenSl (.t i26)⟩, ⟨(some i28), none, .bin .geq (.t i27) (.c (.int .i64 (.ofNat 32)))⟩, ⟨(some i22), none, .move (.t i28)⟩])
  (.cond (.t i22) (.seq (.region [⟨(some i4), none, .move (.c (.int .i64 (.ofNat 0)))⟩, ⟨(some i5), none, .move (.c (.int .i64 (.ofNat 4)))⟩])
  .ret)
  .skip)))))))
  (.seq (.region [⟨(some i29), none, .load (some 10) (.t i3)⟩, ⟨(some i30), none, .build [(.int .u8 (.ofNat 0)), (.int .i64 (.ofNat 0)), (.int .i64 (.ofNat 0)), (.int .i64 (.ofNat 0)), (.int .i64 (.ofNat 0)), (.int .i64 (.ofNat 0)), (.int .i64 (.ofNat 0)), (.int .i64 (.ofNat 0)), (.int .i64 (.ofNat 0)), (.int .i64 (.ofNat 0)), (.int .i64 (.ofNat 0))] [(0, 1, (.c (.int .u8 (.ofNat 1)))), (1, 10, (.t i29))]⟩, ⟨(some i31), none, .mkmap .int⟩, ⟨(some i32), none, .build [(.int .u8 (.ofNat 0)), (.int .i64 (.ofNat 0)), (.int .i64 (.ofNat 0)), (.int .i64 (.ofNat 0)), (.int .i64 (.ofNat 0)), (.int .i64 (.ofNat 0)), (.int .i64 (.ofNat 0)), (.int .i64 (.ofNat 0)), (.int .i64 (.ofNat 0)), (.int .i64 (.ofNat 0)), (.int .i64 (.ofNat 0)), (.int .i64 (.ofNat 0)), .nilslice, .nilmap] [(0, 11, (.t i30)), (13, 1, (.t i31))]⟩, ⟨(some i33), none, .box (.t i32)⟩, ⟨(some i6), none, .move (.t i33)⟩])
  (.seq (.seq (.region [⟨(some i34), none, .move (.t i0)⟩, ⟨(some i35), none, .nilCheck (.t i34)⟩, ⟨(some i36), none, .fieldAddr 0 (.t i35)⟩, ⟨(some i37), none, .fieldAddr 2 (.t i36)⟩, ⟨(some i38), none, .load none (.t i37)⟩, ⟨(some i39), none, .lenSl (.t i38)⟩, ⟨(some i40), none, .move (.c (.int .i64 (.ofNat 0)))⟩])
  (.block 1 (.loop (.seq (.region [⟨(some i41), none, .bin .lss (.t i40) (.t i39)⟩])
  (.seq (.cond (.t i41) .skip
  (.exit 1))
  (.seq (.block 2 (.seq (.region [⟨(some i42), none, .move (.t i40)⟩, ⟨(some i43), none, .indexSl 2 (.t i38) (.t i40)⟩, ⟨(some i44), none, .load (some 2) (.t i43)⟩, ⟨(some i8), none, .alloc [.nilslice, (.bool false)]⟩, ⟨(some i7), none, .move (.t i42)⟩, ⟨none, none, .store (some 2) (.t i8) (.t i44)⟩])
  (.seq (.region [⟨(some i46), none, .fieldAddr 0 (.t i8)⟩, ⟨(some i47), none, .load none (.t i46)⟩, ⟨(some i48), none, .lenSl (.t i47)⟩, ⟨(some i49), none, .call i63 [(.t i48)]⟩, ⟨(some i45), none, .move (.t i49)⟩, ⟨(some i50), none, .extract 0 (.t i45)⟩, ⟨(some i51), none, .extract 1 (.t i45)⟩, ⟨(some i9), none, .move (.t i50)⟩, ⟨(some i10), none, .move (.t i51)⟩])
  (.region [⟨(some i52), none, .move (.t i6)⟩, ⟨(some i53), none, .nilCheck (.t i52)⟩, ⟨(some i54), none, .fieldAddr 13 (.t i53)⟩, ⟨(some i55), none, .load none (.t i54)⟩, ⟨(some i56), none, .move (.t i7)⟩, ⟨(some i57), none, .move (.t i9)⟩, ⟨none, none, .insert .int (.t i55) (.t i56) (.t i57)⟩]))))
  (.region [⟨(some i58), none, .bin .add (.t i40) (.c (.int .i64 (.ofNat 1)))⟩, ⟨(some i40), none, .move (.t i58)⟩])))))))
  (.seq (.region [⟨(some i59), none, .move (.t i0)⟩, ⟨(some i60), none, .move (.t i0)⟩, ⟨(some i61), none, .nilCheck (.t i60)⟩, ⟨(some i62), none, .fieldAddr 3 (.t i61)⟩, ⟨(some i63), none, .load none (.t i62)⟩, ⟨(some i64), none, .move (.t i6)⟩, ⟨(some i65), none, .buildSlice [.nilptr] 1 [(0, 1, (.t i64))]⟩, ⟨(some i66), none, .append 1 (.t i63) (.t i65)⟩, ⟨(some i67), none, .nilCheck (.t i59)⟩, ⟨(some i68), none, .fieldAddr 3 (.t i67)⟩, ⟨none, none, .store none (.t i68) (.t i66)⟩])
  (.seq (.region [⟨(some i69), none, .move (.t i0)⟩, ⟨(some i70), none, .nilCheck (.t i69)⟩, ⟨(some i71), none, .fieldAddr 3 (.t i70)⟩, ⟨(some i72), none, .load none (.t i71)⟩, ⟨(some i73), none, .lenSl (.t i72)⟩, ⟨(some i74), none, .bin .sub (.t i73) (.c (.int .i64 (.ofNat 1)))⟩, ⟨(some i4), none, .move (.t i74)⟩, ⟨(some i5), none, .move (.c (.int .i64 (.ofNat 0)))⟩])
  .ret))))))⟩
theorem tr43 : trFunc (tyIn Tryz.prog tyn) ibn Tryz.f43 = some af43 := by kernel_rfl
theorem nm43 : (Tryz.f43.name == "runtime.NumGoroutine") = false := by kernel_rfl
theorem good43 : GoodAt Tryz.prog tyn ibn i43 af43 := goodAt Tryz.func43 tr43 nm43 rfl
def af44 : AFunc := ⟨[.cell i2 (some 10)], (.seq (.region [⟨(some i2), none, .alloc [(.int .i64 (.ofNat 0)), (.int .i64 (.ofNat 0)), (.int .i64 (.ofNat 0)), (.int .i64 (.ofNat 0)), (.int .i64 (.ofNat 0)), (.int .i64 (.ofNat 0)), (.int .i64 (.ofNat 0)), (.int .i64 (.ofNat 0)), (.int .i64 (.ofNat 0)), (.int .i64 (.ofNat 0))]⟩])
  (.seq (.region [⟨(some i3), none, .move (.t i0)⟩, ⟨(some i4), none, .build [(.int .i64 (.ofNat 0)), (.int .i64 (.ofNat 0)), (.int .i64 (.ofNat 0)), (.int .i64 (.ofNat 0)), (.int .i64 (.ofNat 0)), (.int .i64 (.ofNat 0)), (.int .i64 (.ofNat 0)), (.int .i64 (.ofNat 0)), (.int .i64 (.ofNat 0)), (.int .i64 (.ofNat 0))] [(0, 1, (.t i3))]⟩, ⟨none, none, .store (some 10) (.t i2) (.t i4)⟩])
  .ret))⟩
theorem tr44 : trFunc (tyIn Tryz.prog tyn) ibn Tryz.f44 = some af44 := by kernel_rfl
theorem nm44 : (Tryz.f44.name == "runtime.NumGoroutine") = false := by kernel_rfl
theorem good44 : GoodAt Tryz.prog tyn ibn i44 af44 := goodAt Tryz.func44 tr44 nm44 rfl
def af45 : AFunc := ⟨[], (.region [⟨(some i4), none, .move (.t i1)⟩, ⟨(some i5), none, .buildSlice [(.int .i64 (.ofNat 0))] 1 [(0, 1, (.c (.int .i64 (.ofNat 0))))]⟩, ⟨(some i6), none, .call i64 [(.t i4), (.c (.fn i65 [] [])), (.t i5)]⟩])⟩
theorem tr45 : trFunc (tyIn Tryz.prog tyn) ibn Tryz.f45 = some af45 := by kernel_rfl
theorem nm45 : (Tryz.f45.name == "runtime.NumGoroutine") = false := by kernel_rfl
theorem good45 : GoodAt Tryz.prog tyn ibn i45 af45 := goodAt Tryz.func45 tr45 nm45 rfl
def af46 : AFunc := ⟨[.tmp i4], (.seq (.region [⟨(some i4), none, .move (.c (.int .i64 (.ofNat 0)))⟩])
  (.seq (.block 0 (.seq (.region [⟨(some i7), none, .move (.t i0)⟩, ⟨(some i8), none, .bin (.eq .ptr) (.t i7) (.c .nilptr)⟩, ⟨(some i6), none, .move (.t i8)⟩])
  (.cond (.t i6) (.seq (.region [⟨(some i4), none, .move (.c (.int .i64 (.ofNat 1)))⟩])
  .ret)
  (.seq (.region [⟨(some i10), none, .move (.t i1)⟩, ⟨(some i11), none, .bin .lss (.t i10) (.c (.int .i64 (.ofNat 0)))⟩, ⟨(some i9), none, .move (.t i11)⟩])
  (.cond (.t i9) (.seq (.region [⟨(some i4), none, .move (.c (.int .i64 (.ofNat 2)))⟩])
  .ret)
  (.seq (.region [⟨(some i13), none, .move (.t i0)⟩, ⟨(some i14), none, .nilCheck (.t i13)⟩, ⟨(some i15), none, .fieldAddr 17 (.t i14)⟩, ⟨(some i16), none, .load none (.t i15)⟩, ⟨(some i17), none, .bin (.ne .int) (.t i16) (.c (.int .u8 (.ofNat 1)))⟩, ⟨(some i12), none, .move (.t i17)⟩])
  (.cond (.t i12) (.seq (.region [⟨(some i4), none, .move (.c (.int .i64 (.ofNat 0)))⟩])
  .ret)
  .skip)))))))
  (.seq (.drawn [⟨0, .v, ⟨(some i18), none, .move (.t i0)⟩⟩, ⟨1, .v, ⟨(some i19), none, .nilCheck (.t i18)⟩⟩, ⟨2, .v, ⟨(some i20), none, .fieldAddr 15 (.t i19)⟩⟩, ⟨3, (.r 0), ⟨(some i21), none, .load none (.t i20)⟩⟩, ⟨4, .v, ⟨(some i22), none, .move (.t i1)⟩⟩, ⟨5, .v, ⟨(some i23), none, .move (.t i0)⟩⟩, ⟨6, .v, ⟨(some i24), none, .nilCheck (.t i23)⟩⟩, ⟨7, .v, ⟨(some i25), none, .fieldAddr 15 (.t i24)⟩⟩, ⟨8, (.r 0), ⟨(some i26), none, .load none (.t i25)⟩⟩, ⟨9, .v, ⟨(some i27), none, .lenSl (.t i26)⟩⟩, ⟨10, .v, ⟨(some i28), none, .bin .rem (.t i22) (.t i27)⟩⟩, ⟨11, .v, ⟨(some i29), none, .indexSl 32 (.t i21) (.t i28)⟩⟩, ⟨12, .v, ⟨(some i5), none, .move (.t i29)⟩⟩])
  (.seq (.region [⟨(some i30), none, .move (.t i5)⟩, ⟨(some i31), none, .nilCheck (.t i30)⟩, ⟨(some i32), none, .fieldAddr 1 (.t i31)⟩, ⟨(some i33), none, .load none (.t i32)⟩, ⟨(some i34), none, .move (.t i0)⟩, ⟨(some i35), none, .move (.t i5)⟩, ⟨(some i36), none, .callv (.t i33) [(.t i34), (.t i35)]⟩])
  (.seq (.region [⟨(some i37), none, .move (.t i0)⟩, ⟨(some i38), none, .nilCheck (.t i37)⟩, ⟨(some i39), none, .fieldAddr 16 (.t i38)⟩, ⟨(some i40), none, .load none (.t i39)⟩, ⟨(some i41), none, .bin .add (.t i40) (.c (.int .i64 (.ofNat 1)))⟩, ⟨(some i42), none, .nilCheck (.t i37)⟩, ⟨(some i43), none, .fieldAddr 16 (.t i42)⟩, ⟨none, none, .store none (.t i43) (.t i41)⟩])
  (.seq (.region [⟨(some i4), none, .move (.c (.int .i64 (.ofNat 0)))⟩])
  .ret))))))⟩
theorem tr46 : trFunc (tyIn Tryz.prog tyn) ibn Tryz.f46 = some af46 := by kernel_rfl
theorem nm46 : (Tryz.f46.name == "runtime.NumGoroutine") = false := by kernel_rfl
theorem good46 : GoodAt Tryz.prog tyn ibn i46 af46 := goodAt Tryz.func46 tr46 nm46 rfl
def af47 : AFunc := ⟨[.tmp i2], (.seq (.region [⟨(some i2), none, .move (.c .nilptr)⟩])
  (.seq (.seq (.region [⟨(some i3), none, .move (.t i0)⟩, ⟨(some i4), none, .bin (.eq .ptr) (.t i3) (.c .nilptr)⟩])
  (.cond (.t i4) (.seq (.region [⟨(some i2), none, .move (.c .nilptr)⟩])
  .ret)
  .skip))
  (.seq (.region [⟨(some i5), none, .move (.t i0)⟩, ⟨(some i6), none, .nilCheck (.t i5)⟩, ⟨(some i7), none, .fieldAddr 14 (.t i6)⟩, ⟨(some i8), none, .load none (.t i7)⟩, ⟨(some i9), none, .call i66 [(.t i8)]⟩, ⟨(some i2), none, .move (.t i9)⟩])
  .ret)))⟩
theorem tr47 : trFunc (tyIn Tryz.prog tyn) ibn Tryz.f47 = some af47 := by kernel_rfl
theorem nm47 : (Tryz.f47.name == "runtime.NumGoroutine") = false := by kernel_rfl
theorem good47 : GoodAt Tryz.prog tyn ibn i47 af47 := goodAt Tryz.func47 tr47 nm47 rfl
def af48 : AFunc := ⟨[.tmp i2], (.seq (.region [⟨(some i2), none, .move (.c .nilslice)⟩])
  (.seq (.region [⟨(some i3), none, .move (.t i0)⟩, ⟨(some i4), none, .call i67 [(.t i3), (.c (.fn i68 [] []))]⟩, ⟨(some i2), none, .move (.t i4)⟩])
  .ret))⟩
theorem tr48 : trFunc (tyIn Tryz.prog tyn) ibn Tryz.f48 = some af48 := by kernel_rfl
theorem nm48 : (Tryz.f48.name == "runtime.NumGoroutine") = false := by kernel_rfl
theorem good48 : GoodAt Tryz.prog tyn ibn i48 af48 := goodAt Tryz.func48 tr48 nm48 rfl
def af49 : AFunc := ⟨[.tmp i4], (.seq (.region [⟨(some i3), none, .box (.t i1)⟩, ⟨(some i4), none, .move (.c (.int .i64 (.ofNat 0)))⟩])
  (.scope (.seq (.region [⟨(some i5), none, .alloc [(.int .i64 (.ofNat 0))]⟩, ⟨none, none, .store none (.t i5) (.c (.int .i64 (.negSucc 0)))⟩])
  (.seq (.seq (.region [⟨(some i8), none, .move (.t i0)⟩, ⟨(some i9), none, .bin (.eq .ptr) (.t i8) (.c .nilptr)⟩])
  (.cond (.t i9) (.seq (.region [⟨(some i10), none, .load none (.t i5)⟩, ⟨(some i4), none, .move (.t i10)⟩])
  .ret)
  .skip))
  (.seq .skip
  (.seq (.seq (.region [⟨(some i11), none, .move (.t i0)⟩, ⟨(some i12), none, .mkfn i32 [(.t i11)] []⟩])
  (.block 0 (.rangeFunc (.t i12) [i13, i14] (.seq (.region [⟨(some i6), none, .move (.t i13)⟩])
  (.region [⟨(some i7), none, .move (.t i14)⟩])) (.block 1 (.seq (.region [⟨(some i15), none, .move (.t i7)⟩, ⟨(some i16), none, .load none (.t i3)⟩, ⟨(some i17), none, .bin (.eq .int) (.t i15) (.t i16)⟩])
  (.cond (.t i17) (.seq (.region [⟨(some i18), none, .move (.t i6)⟩, ⟨none, none, .store none (.t i5) (.t i18)⟩])
  (.exit 0))
  .skip))))))
  (.seq (.region [⟨(some i19), none, .load none (.t i5)⟩, ⟨(some i4), none, .move (.t i19)⟩])
  .ret)))))))⟩
theorem tr49 : trFunc (tyIn Tryz.prog tyn) ibn Tryz.f49 = some af49 := by kernel_rfl
theorem nm49 : (Tryz.f49.name == "runtime.NumGoroutine") = false := by kernel_rfl
theorem good49 : GoodAt Tryz.prog tyn ibn i49 af49 := goodAt Tryz.func49 tr49 nm49 rfl
def af50 : AFunc := ⟨[], (.seq (.region [⟨(some i6), none, .recover⟩])
  (.block 0 (.seq (.region [⟨(some i8), none, .bin (.eq .iface) (.t i6) (.c .niliface)⟩])
  (.cond (.t i8) (.region [⟨(some i3), none, .move (.t i6)⟩])
  (.seq (.region [⟨(some i9), none, .bad⟩, ⟨(some i10), none, .extract 1 (.t i9)⟩, ⟨(some i11), none, .extract 0 (.t i9)⟩])
  (.cond (.t i10) (.seq (.region [⟨(some i4), none, .alloc [(.int .i64 (.ofNat 0)), (.int .i64 (.ofNat 0)), (.int .i64 (.ofNat 0))]⟩, ⟨none, none, .store (some 3) (.t i4) (.t i11)⟩])
  (.drawn [⟨0, .v, ⟨(some i12), none, .fieldAddr 0 (.t i4)⟩⟩, ⟨1, (.r 0), ⟨(some i13), none, .load none (.t i12)⟩⟩, ⟨6, .e, ⟨none, none, .store none (.t i0) (.t i13)⟩⟩, ⟨2, .v, ⟨(some i14), none, .fieldAddr 1 (.t i4)⟩⟩, ⟨3, (.r 1), ⟨(some i15), none, .load none (.t i14)⟩⟩, ⟨7, .e, ⟨none, none, .store none (.t i1) (.t i15)⟩⟩, ⟨4, .v, ⟨(some i16), none, .fieldAddr 2 (.t i4)⟩⟩, ⟨5, (.r 2), ⟨(some i17), none, .load none (.t i16)⟩⟩, ⟨8, .e, ⟨none, none, .store none (.t i2) (.t i17)⟩⟩]))
  (.seq (.region [⟨(some i5), none, .move (.t i6)⟩])
  (.region [⟨(some i7), none, .move (.t i5)⟩, ⟨none, none, .bad⟩]))))))))⟩
theorem tr50 : trFunc (tyIn Tryz.prog tyn) ibn Tryz.f50 = some af50 := by kernel_rfl
theorem nm50 : (Tryz.f50.name == "runtime.NumGoroutine") = false := by kernel_rfl
theorem good50 : GoodAt Tryz.prog tyn ibn i50 af50 := goodAt Tryz.func50 tr50 nm50 rfl
def af51 : AFunc := ⟨[], (.seq (.region [⟨(some i1), none, .box (.t i0)⟩])
  (.seq (.region [⟨(some i4), none, .fieldAddr 0 (.t i1)⟩, ⟨(some i5), none, .fieldAddr 0 (.t i4)⟩, ⟨(some i6), none, .load none (.t i5)⟩, ⟨(some i7), none, .lenSl (.t i6)⟩, ⟨(some i8), none, .bin .leq (.t i7) (.c (.int .i64 (.ofNat 6)))⟩, ⟨(some i9), none, .call i69 [(.t i8), (.c (.int .i64 (.ofNat 0))), (.c (.int .i64 (.ofNat 0))), (.c (.int .i64 (.ofNat 110)))]⟩])
  (.seq (.region [⟨(some i10), none, .fieldAddr 0 (.t i1)⟩, ⟨(some i11), none, .fieldAddr 0 (.t i10)⟩, ⟨(some i12), none, .load none (.t i11)⟩, ⟨(some i13), none, .lenSl (.t i12)⟩, ⟨(some i14), none, .move (.c (.int .i64 (.ofNat 0)))⟩])
  (.block 0 (.loop (.seq (.region [⟨(some i15), none, .bin .lss (.t i14) (.t i13)⟩])
  (.seq (.cond (.t i15) .skip
  (.exit 0))
  (.seq (.block 1 (.seq (.region [⟨(some i16), none, .move (.t i14)⟩, ⟨(some i17), none, .indexSl 1 (.t i12) (.t i14)⟩, ⟨(some i18), none, .load none (.t i17)⟩, ⟨(some i2), none, .move (.t i16)⟩, ⟨(some i3), none, .move (.t i18)⟩])
  (.region [⟨(some i19), none, .move (.t i3)⟩, ⟨(some i20), none, .bin .geq (.t i19) (.c (.int .i64 (.ofNat 0)))⟩, ⟨(some i21), none, .move (.t i20)⟩, ⟨(some i22), (some (i21, true)), .move (.t i3)⟩, ⟨(some i23), (some (i21, true)), .bin .leq (.t i22) (.c (.int .i64 (.ofNat 8)))⟩, ⟨(some i24), none, .pick (.t i21) (.t i23) (.c (.bool false))⟩, ⟨(some i25), none, .move (.t i2)⟩, ⟨(some i26), none, .call i69 [(.t i24), (.t i25), (.c (.int .i64 (.ofNat 0))), (.c (.int .i64 (.ofNat 110)))]⟩])))
  (.region [⟨(some i27), none, .bin .add (.t i14) (.c (.int .i64 (.ofNat 1)))⟩, ⟨(some i14), none, .move (.t i27)⟩])))))))))⟩
theorem tr51 : trFunc (tyIn Tryz.prog tyn) ibn Tryz.f51 = some af51 := by kernel_rfl
theorem nm51 : (Tryz.f51.name == "runtime.NumGoroutine") = false := by kernel_rfl
theorem good51 : GoodAt Tryz.prog tyn ibn i51 af51 := goodAt Tryz.func51 tr51 nm51 rfl
def af52 : AFunc := ⟨[], (.seq (.region [⟨(some i1), none, .box (.t i0)⟩])
  (.seq (.region [⟨(some i4), none, .fieldAddr 0 (.t i1)⟩, ⟨(some i5), none, .fieldAddr 2 (.t i4)⟩, ⟨(some i6), none, .load none (.t i5)⟩, ⟨(some i7), none, .lenSl (.t i6)⟩, ⟨(some i8), none, .bin .leq (.t i7) (.c (.int .i64 (.ofNat 12)))⟩, ⟨(some i9), none, .call i69 [(.t i8), (.c (.int .i64 (.ofNat 0))), (.c (.int .i64 (.ofNat 0))), (.c (.int .i64 (.ofNat 111)))]⟩])
  (.seq (.region [⟨(some i10), none, .fieldAddr 0 (.t i1)⟩, ⟨(some i11), none, .fieldAddr 2 (.t i10)⟩, ⟨(some i12), none, .load none (.t i11)⟩, ⟨(some i13), none, .lenSl (.t i12)⟩, ⟨(some i14), none, .move (.c (.int .i64 (.ofNat 0)))⟩])
  (.block 0 (.loop (.seq (.region [⟨(some i15), none, .bin .lss (.t i14) (.t i13)⟩])
  (.seq (.cond (.t i15) .skip
  (.exit 0))
  (.seq (.block 1 (.seq (.region [⟨(some i16), none, .move (.t i14)⟩, ⟨(some i17), none, .indexSl 2 (.t i12) (.t i14)⟩, ⟨(some i18), none, .load (some 2) (.t i17)⟩, ⟨(some i3), none, .alloc [.nilslice, (.bool false)]⟩, ⟨(some i2), none, .move (.t i16)⟩, ⟨none, none, .store (some 2) (.t i3) (.t i18)⟩])
  (.region [⟨(some i19), none, .load (some 3) (.t i1)⟩, ⟨(some i20), none, .load (some 2) (.t i3)⟩, ⟨(some i21), none, .call i70 [(.t i19), (.t i20)]⟩, ⟨(some i22), none, .move (.t i2)⟩, ⟨(some i23), none, .call i69 [(.t i21), (.t i22), (.c (.int .i64 (.ofNat 0))), (.c (.int .i64 (.ofNat 111)))]⟩])))
  (.region [⟨(some i24), none, .bin .add (.t i14) (.c (.int .i64 (.ofNat 1)))⟩, ⟨(some i14), none, .move (.t i24)⟩])))))))))⟩
theorem tr52 : trFunc (tyIn Tryz.prog tyn) ibn Tryz.f52 = some af52 := by kernel_rfl
theorem nm52 : (Tryz.f52.name == "runtime.NumGoroutine") = false := by kernel_rfl
theorem good52 : GoodAt Tryz.prog tyn ibn i52 af52 := goodAt Tryz.func52 tr52 nm52 rfl
def af53 : AFunc := ⟨[], (.seq (.region [⟨(some i1), none, .box (.t i0)⟩])
  (.seq (.region [⟨(some i7), none, .fieldAddr 0 (.t i1)⟩, ⟨(some i8), none, .fieldAddr 1 (.t i7)⟩, ⟨(some i9), none, .load none (.t i8)⟩, ⟨(some i10), none, .lenSl (.t i9)⟩, ⟨(some i2), none, .move (.t i10)⟩])
  (.seq (.region [⟨(some i11), none, .move (.t i2)⟩, ⟨(some i12), none, .bin .geq (.t i11) (.c (.int .i64 (.ofNat 1)))⟩, ⟨(some i13), none, .move (.t i12)⟩, ⟨(some i14), (some (i13, true)), .move (.t i2)⟩, ⟨(some i15), (some (i13, true)), .bin .leq (.t i14) (.c (.int .i64 (.ofNat 8)))⟩, ⟨(some i16), none, .pick (.t i13) (.t i15) (.c (.bool false))⟩, ⟨(some i17), none, .call i69 [(.t i16), (.c (.int .i64 (.ofNat 0))), (.c (.int .i64 (.ofNat 0))), (.c (.int .i64 (.ofNat 112)))]⟩])
  (.seq (.region [⟨(some i18), none, .fieldAddr 0 (.t i1)⟩, ⟨(some i19), none, .fieldAddr 1 (.t i18)⟩, ⟨(some i20), none, .load none (.t i19)⟩, ⟨(some i21), none, .lenSl (.t i20)⟩, ⟨(some i22), none, .move (.c (.int .i64 (.ofNat 0)))⟩])
  (.block 0 (.loop (.seq (.region [⟨(some i23), none, .bin .lss (.t i22) (.t i21)⟩])
  (.seq (.cond (.t i23) .skip
  (.exit 0))
  (.seq (.block 1 (.seq (.region [⟨(some i24), none, .move (.t i22)⟩, ⟨(some i25), none, .indexSl 1 (.t i20) (.t i22)⟩, ⟨(some i26), none, .load none (.t i25)⟩, ⟨(some i3), none, .move (.t i24)⟩, ⟨(some i4), none, .move (.t i26)⟩])
  (.seq (.region [⟨(some i27), none, .move (.t i4)⟩, ⟨(some i28), none, .lenSl (.t i27)⟩, ⟨(some i29), none, .bin .geq (.t i28) (.c (.int .i64 (.ofNat 1)))⟩, ⟨(some i30), none, .move (.t i29)⟩, ⟨(some i31), (some (i30, true)), .move (.t i4)⟩, ⟨(some i32), (some (i30, true)), .lenSl (.t i31)⟩, ⟨(some i33), (some (i30, true)), .bin .leq (.t i32) (.c (.int .i64 (.ofNat 40)))⟩, ⟨(some i34), none, .pick (.t i30) (.t i33) (.c (.bool false))⟩, ⟨(some i35), none, .move (.t i3)⟩, ⟨(some i36), none, .call i69 [(.t i34), (.t i35), (.c (.int .i64 (.ofNat 0))), (.c (.int .i64 (.ofNat 112)))]⟩])
  (.seq (.region [⟨(some i37), none, .move (.t i4)⟩, ⟨(some i38), none, .lenSl (.t i37)⟩, ⟨(some i39), none, .move (.c (.int .i64 (.ofNat 0)))⟩])
  (.block 2 (.loop (.seq (.region [⟨(some i40), none, .bin .lss (.t i39) (.t i38)⟩])
  (.seq (.cond (.t i40) .skip
  (.exit 2))
  (.seq (.block 3 (.seq (.region [⟨(some i41), none, .move (.t i39)⟩, ⟨(some i42), none, .indexSl 5 (.t i37) (.t i39)⟩, ⟨(some i43), none, .load (some 5) (.t i42)⟩, ⟨(some i6), none, .alloc [(.int .u8 (.ofNat 0)), (.int .i64 (.ofNat 0)), (.int .i64 (.ofNat 0)), (.int .i64 (.ofNat 0)), (.int .i64 (.ofNat 0))]⟩, ⟨(some i5), none, .move (.t i41)⟩, ⟨none, none, .store (some 5) (.t i6) (.t i43)⟩])
  (.region [⟨(some i44), none, .load (some 5) (.t i6)⟩, ⟨(some i45), none, .fieldAddr 0 (.t i1)⟩, ⟨(some i46), none, .fieldAddr 0 (.t i45)⟩, ⟨(some i47), none, .load none (.t i46)⟩, ⟨(some i48), none, .lenSl (.t i47)⟩, ⟨(some i49), none, .fieldAddr 0 (.t i1)⟩, ⟨(some i50), none, .fieldAddr 2 (.t i49)⟩, ⟨(some i51), none, .load none (.t i50)⟩, ⟨(some i52), none, .lenSl (.t i51)⟩, ⟨(some i53), none, .move (.t i2)⟩, ⟨(some i54), none, .move (.t i4)⟩, ⟨(some i55), none, .lenSl (.t i54)⟩, ⟨(some i56), none, .call i71 [(.t i44), (.t i48), (.t i52), (.t i53), (.t i55)]⟩, ⟨(some i57), none, .bin (.eq .int) (.t i56) (.c (.int .i64 (.ofNat 0)))⟩, ⟨(some i58), none, .move (.t i3)⟩, ⟨(some i59), none, .move (.t i5)⟩, ⟨(some i60), none, .call i69 [(.t i57), (.t i58), (.t i59), (.c (.int .i64 (.ofNat 112)))]⟩])))
  (.region [⟨(some i61), none, .bin .add (.t i39) (.c (.int .i64 (.ofNat 1)))⟩, ⟨(some i39), none, .move (.t i61)⟩]))))))))))
  (.region [⟨(some i62), none, .bin .add (.t i22) (.c (.int .i64 (.ofNat 1)))⟩, ⟨(some i22), none, .move (.t i62)⟩]))))))))))⟩
theorem tr53 : trFunc (tyIn Tryz.prog tyn) ibn Tryz.f53 = some af53 := by kernel_rfl
theorem nm53 : (Tryz.f53.name == "runtime.NumGoroutine") = false := by kernel_rfl
theorem good53 : GoodAt Tryz.prog tyn ibn i53 af53 := goodAt Tryz.func53 tr53 nm53 rfl
def af54 : AFunc := ⟨[], (.seq (.region [⟨(some i1), none, .box (.t i0)⟩])
  (.seq (.region [⟨(some i5), none, .fieldAddr 0 (.t i1)⟩, ⟨(some i6), none, .fieldAddr 1 (.t i5)⟩, ⟨(some i7), none, .load none (.t i6)⟩, ⟨(some i8), none, .lenSl (.t i7)⟩, ⟨(some i9), none, .move (.c (.int .i64 (.ofNat 0)))⟩])
  (.block 0 (.loop (.seq (.region [⟨(some i10), none, .bin .lss (.t i9) (.t i8)⟩])
  (.seq (.cond (.t i10) .skip
  (.exit 0))
  (.seq (.block 1 (.seq (.region [⟨(some i11), none, .move (.t i9)⟩, ⟨(some i12), none, .indexSl 1 (.t i7) (.t i9)⟩, ⟨(some i13), none, .load none (.t i12)⟩, ⟨(some i2), none, .move (.t i11)⟩, ⟨(some i3), none, .move (.t i13)⟩])
  (.seq (.region [⟨(some i14), none, .move (.t i3)⟩, ⟨(some i15), none, .move (.t i3)⟩, ⟨(some i16), none, .lenSl (.t i15)⟩, ⟨(some i17), none, .bin .sub (.t i16) (.c (.int .i64 (.ofNat 1)))⟩, ⟨(some i18), none, .indexSl 5 (.t i14) (.t i17)⟩, ⟨(some i19), none, .fieldAddr 0 (.t i18)⟩, ⟨(some i20), none, .load none (.t i19)⟩, ⟨(some i4), none, .move (.t i20)⟩])
  (.region [⟨(some i21), none, .move (.t i4)⟩, ⟨(some i22), none, .bin (.ne .int) (.t i21) (.c (.int .u8 (.ofNat 10)))⟩, ⟨(some i23), none, .move (.t i22)⟩, ⟨(some i24), (some (i23, true)), .move (.t i4)⟩, ⟨(some i25), (some (i23, true)), .bin (.ne .int) (.t i24) (.c (.int .u8 (.ofNat 3)))⟩, ⟨(some i26), none, .pick (.t i23) (.t i25) (.c (.bool false))⟩, ⟨(some i27), none, .not (.t i26)⟩, ⟨(some i28), none, .move (.t i2)⟩, ⟨(some i29), none, .call i69 [(.t i27), (.t i28), (.c (.int .i64 (.ofNat 0))), (.c (.int .i64 (.ofNat 113)))]⟩]))))
  (.region [⟨(some i30), none, .bin .add (.t i9) (.c (.int .i64 (.ofNat 1)))⟩, ⟨(some i9), none, .move (.t i30)⟩]))))))))⟩
theorem tr54 : trFunc (tyIn Tryz.prog tyn) ibn Tryz.f54 = some af54 := by kernel_rfl
theorem nm54 : (Tryz.f54.name == "runtime.NumGoroutine") = false := by kernel_rfl
theorem good54 : GoodAt Tryz.prog tyn ibn i54 af54 := goodAt Tryz.func54 tr54 nm54 rfl
def af55 : AFunc := ⟨[.tmp i2], (.seq (.region [⟨(some i2), none, .move (.c .nilslice)⟩])
  (.seq (.region [⟨(some i3), none, .move (.t i0)⟩, ⟨(some i4), none, .call i72 [(.t i3)]⟩, ⟨(some i2), none, .move (.t i4)⟩])
  .ret))⟩
theorem tr55 : trFunc (tyIn Tryz.prog tyn) ibn Tryz.f55 = some af55 := by kernel_rfl
theorem nm55 : (Tryz.f55.name == "runtime.NumGoroutine") = false := by kernel_rfl
theorem good55 : GoodAt Tryz.prog tyn ibn i55 af55 := goodAt Tryz.func55 tr55 nm55 rfl
def af56 : AFunc := ⟨[.tmp i2], (.seq (.region [⟨(some i2), none, .move (.c .nilslice)⟩])
  (.seq (.region [⟨(some i3), none, .move (.t i0)⟩, ⟨(some i4), none, .call i73 [(.t i3)]⟩, ⟨(some i2), none, .move (.t i4)⟩])
  .ret))⟩
theorem tr56 : trFunc (tyIn Tryz.prog tyn) ibn Tryz.f56 = some af56 := by kernel_rfl
theorem nm56 : (Tryz.f56.name == "runtime.NumGoroutine") = false := by kernel_rfl
theorem good56 : GoodAt Tryz.prog tyn ibn i56 af56 := goodAt Tryz.func56 tr56 nm56 rfl
def af57 : AFunc := ⟨[.tmp i2], (.seq (.region [⟨(some i2), none, .move (.c .nilslice)⟩])
  (.seq (.region [⟨(some i3), none, .move (.t i0)⟩, ⟨(some i4), none, .call i74 [(.t i3)]⟩, ⟨(some i2), none, .move (.t i4)⟩])
  .ret))⟩
theorem tr57 : trFunc (tyIn Tryz.prog tyn) ibn Tryz.f57 = some af57 := by kernel_rfl
theorem nm57 : (Tryz.f57.name == "runtime.NumGoroutine") = false := by kernel_rfl
theorem good57 : GoodAt Tryz.prog tyn ibn i57 af57 := goodAt Tryz.func57 tr57 nm57 rfl
def af58 : AFunc := ⟨[.tmp i6, .tmp i7], (.seq (.region [⟨(some i6), none, .move (.c .nilptr)⟩, ⟨(some i7), none, .move (.c (.int .i64 (.ofNat 0)))⟩])
  (.seq (.block 0 (.seq (.region [⟨(some i9), none, .move (.t i0)⟩, ⟨(some i10), none, .bin (.eq .ptr) (.t i9) (.c .nilptr)⟩, ⟨(some i8), none, .move (.t i10)⟩])
  (.cond (.t i8) (.seq (.region [⟨(some i6), none, .move (.c .nilptr)⟩, ⟨(some i7), none, .move (.c (.int .i64 (.ofNat 1)))⟩])
  .ret)
  (.seq (.region [⟨(some i12), none, .move (.t i2)⟩, ⟨(some i13), none, .bin .lss (.t i12) (.c (.int .i64 (.ofNat 1)))⟩, ⟨(some i14), none, .move (.t i13)⟩, ⟨(some i15), (some (i14, false)), .move (.t i2)⟩, ⟨(some i16), (some (i14, false)), .bin .gtr (.t i15) (.c (.int .i64 (.ofNat 300)))⟩, ⟨(some i17), none, .pick (.t i14) (.c (.bool true)) (.t i16)⟩, ⟨(some i18), none, .move (.t i17)⟩, ⟨(some i19), (some (i18, false)), .move (.t i1)⟩, ⟨(some i20), (some (i18, false)), .bin .lss (.t i19) (.c (.int .i64 (.ofNat 0)))⟩, ⟨(some i21), none, .pick (.t i18) (.c (.bool true)) (.t i20)⟩, ⟨(some i22), none, .move (.t i21)⟩, ⟨(some i23), (some (i22, false)), .move (.t i1)⟩, ⟨(some i24), (some (i22, false)), .move (.t i0)⟩, ⟨(some i25), (some (i22, false)), .call i75 [(.t i24)]⟩, ⟨(some i26), (some (i22, false)), .move (.t i2)⟩, ⟨(some i27), (some (i22, false)), .bin .mul (.c (.int .i64 (.ofNat 2))) (.t i26)⟩, ⟨(some i28), (some (i22, false)), .bin .sub (.t i25) (.t i27)⟩, ⟨(some i29), (some (i22, false)), .bin .gtr (.t i23) (.t i28)⟩, ⟨(some i30), none, .pick (.t i22) (.c (.bool true)) (.t i29)⟩, ⟨(some i11), none, .move (.t i30)⟩])
  (.cond (.t i11) (.seq (.region [⟨(some i6), none, .move (.c .nilptr)⟩, ⟨(some i7), none, .move (.c (.int .i64 (.ofNat 2)))⟩])
  .ret)
  .skip)))))
  (.seq (.region [⟨(some i31), none, .move (.t i0)⟩, ⟨(some i32), none, .move (.t i1)⟩, ⟨(some i33), none, .move (.t i2)⟩, ⟨(some i34), none, .build [.nilptr, (.int .i64 (.ofNat 0)), (.int .i64 (.ofNat 0))] [(0, 1, (.t i31)), (1, 1, (.t i32)), (2, 1, (.t i33))]⟩, ⟨(some i35), none, .box (.t i34)⟩, ⟨(some i6), none, .move (.t i35)⟩, ⟨(some i7), none, .move (.c (.int .i64 (.ofNat 0)))⟩])
  .ret)))⟩
theorem tr58 : trFunc (tyIn Tryz.prog tyn) ibn Tryz.f58 = some af58 := by kernel_rfl
theorem nm58 : (Tryz.f58.name == "runtime.NumGoroutine") = false := by kernel_rfl
theorem good58 : GoodAt Tryz.prog tyn ibn i58 af58 := goodAt Tryz.func58 tr58 nm58 rfl
def af59 : AFunc := ⟨[.tmp i6, .tmp i7], (.seq (.region [⟨(some i6), none, .move (.c .nilptr)⟩, ⟨(some i7), none, .move (.c (.int .i64 (.ofNat 0)))⟩])
  (.seq (.block 0 (.seq (.region [⟨(some i9), none, .move (.t i0)⟩, ⟨(some i10), none, .bin (.eq .ptr) (.t i9) (.c .nilptr)⟩, ⟨(some i8), none, .move (.t i10)⟩])
  (.cond (.t i8) (.seq (.region [⟨(some i6), none, .move (.c .nilptr)⟩, ⟨(some i7), none, .move (.c (.int .i64 (.ofNat 1)))⟩])
  .ret)
  (.seq (.seq (.region [⟨(some i12), none, .move (.t i2)⟩, ⟨(some i13), none, .bin .lss (.t i12) (.c (.int .i64 (.ofNat 1)))⟩, ⟨(some i11), none, .move (.t i13)⟩])
  (.cond (.t i11) .skip
  (.seq (.region [⟨(some i14), none, .move (.t i2)⟩, ⟨(some i15), none, .bin .gtr (.t i14) (.c (.int .i64 (.ofNat 32)))⟩, ⟨(some i11), none, .move (.t i15)⟩])
  (.cond (.t i11) .skip
  (.seq (.region [⟨(some i16), none, .move (.t i1)⟩, ⟨(some i17), none, .bin .lss (.t i16) (.c (.int .i64 (.ofNat 0)))⟩, ⟨(some i11), none, .move (.t i17)⟩])
  (.cond (.t i11) .skip
  (.region [⟨(some i18), none, .move (.t i1)⟩, ⟨(some i19), none, .move (.t i0)⟩, ⟨(some i20), none, .call i75 [(.t i19)]⟩, ⟨(some i21), none, .move (.t i2)⟩, ⟨(some i22), none, .bin .sub (.t i20) (.t i21)⟩, ⟨(some i23), none, .bin .gtr (.t i18) (.t i22)⟩, ⟨(some i11), none, .move (.t i23)⟩])))))))
  (.cond (.t i11) (.seq (.region [⟨(some i6), none, .move (.c .nilptr)⟩, ⟨(some i7), none, .move (.c (.int .i64 (.ofNat 2)))⟩])
  .ret)
  .skip)))))
  (.seq (.region [⟨(some i24), none, .move (.t i0)⟩, ⟨(some i25), none, .build [.nilptr] [(0, 1, (.t i24))]⟩, ⟨(some i26), none, .move (.t i1)⟩, ⟨(some i27), none, .move (.t i2)⟩, ⟨(some i28), none, .build [.nilptr, (.int .i64 (.ofNat 0)), (.int .i64 (.ofNat 0))] [(0, 1, (.t i25)), (1, 1, (.t i26)), (2, 1, (.t i27))]⟩, ⟨(some i29), none, .box (.t i28)⟩, ⟨(some i6), none, .move (.t i29)⟩, ⟨(some i7), none, .move (.c (.int .i64 (.ofNat 0)))⟩])
  .ret)))⟩
theorem tr59 : trFunc (tyIn Tryz.prog tyn) ibn Tryz.f59 = some af59 := by kernel_rfl
theorem nm59 : (Tryz.f59.name == "runtime.NumGoroutine") = false := by kernel_rfl
theorem good59 : GoodAt Tryz.prog tyn ibn i59 af59 := goodAt Tryz.func59 tr59 nm59 rfl
end Go.Am

