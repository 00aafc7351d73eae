/- An abstract machine for Go code and its soundness over the model; no condition of its own. Used by the proof that the law TopScheduled returns true at every input. -/
import Derived.Test.YtofefignkpmlbaaGreatFnPos
import Derived.Test.YtofefignkpmlbaaGreatFn3
namespace Go.Am
open Go.Proofs
def af269 : AFunc := ⟨[.tmp i4, .tmp i5], (.seq (.region [⟨(some i4), none, .move (.c (.int .i64 (.ofNat 0)))⟩, ⟨(some i5), none, .move (.c (.int .i64 (.ofNat 0)))⟩])
  (.seq (.region [⟨(some i6), none, .move (.t i0)⟩, ⟨(some i7), none, .call i249 [(.t i6)]⟩, ⟨(some i8), none, .move (.t i1)⟩, ⟨(some i9), none, .call i280 [(.t i7), (.t i8)]⟩, ⟨(some i10), none, .extract 0 (.t i9)⟩, ⟨(some i11), none, .extract 1 (.t i9)⟩, ⟨(some i4), none, .move (.t i10)⟩, ⟨(some i5), none, .move (.t i11)⟩])
  .ret))⟩
theorem tr269 : trFunc (tyIn Tryz.prog tyn) ibn Tryz.f269 = some af269 := by kernel_rfl
theorem nm269 : (Tryz.f269.name == "runtime.NumGoroutine") = false := by kernel_rfl
theorem good269 : GoodAt Tryz.prog tyn ibn i269 af269 := goodAt Tryz.func269 tr269 nm269 rfl
def af270 : AFunc := ⟨[.tmp i2], (.seq (.region [⟨(some i1), none, .box (.t i0)⟩, ⟨(some i2), none, .move (.c .nilfn)⟩])
  (.seq (.region [⟨(some i3), none, .mkfn i281 [] [(.t i1)]⟩, ⟨(some i2), none, .move (.t i3)⟩])
  .ret))⟩
theorem tr270 : trFunc (tyIn Tryz.prog tyn) ibn Tryz.f270 = some af270 := by kernel_rfl
theorem nm270 : (Tryz.f270.name == "runtime.NumGoroutine") = false := by kernel_rfl
theorem good270 : GoodAt Tryz.prog tyn ibn i270 af270 := goodAt Tryz.func270 tr270 nm270 rfl
def af271 : AFunc := ⟨[.tmp i2], (.seq (.region [⟨(some i2), none, .move (.c (.int .i64 (.ofNat 0)))⟩])
  (.seq (.seq (.region [⟨(some i3), none, .move (.t i0)⟩, ⟨(some i4), none, .bin (.eq .ptr) (.t i3) (.c .nilptr)⟩])
  (.cond (.t i4) (.seq (.region [⟨(some i2), none, .move (.c (.int .i64 (.ofNat 0)))⟩])
  .ret)
  .skip))
  (.seq (.region [⟨(some i5), none, .move (.t i0)⟩, ⟨(some i6), none, .nilCheck (.t i5)⟩, ⟨(some i7), none, .fieldAddr 10 (.t i6)⟩, ⟨(some i8), none, .load none (.t i7)⟩, ⟨(some i2), none, .move (.t i8)⟩])
  .ret)))⟩
theorem tr271 : trFunc (tyIn Tryz.prog tyn) ibn Tryz.f271 = some af271 := by kernel_rfl
theorem nm271 : (Tryz.f271.name == "runtime.NumGoroutine") = false := by kernel_rfl
theorem good271 : GoodAt Tryz.prog tyn ibn i271 af271 := goodAt Tryz.func271 tr271 nm271 rfl
def af272 : AFunc := ⟨[], (.seq (.region [⟨(some i4), none, .move (.t i0)⟩, ⟨(some i5), none, .move (.t i1)⟩, ⟨(some i6), none, .move (.t i1)⟩, ⟨(some i7), none, .nilCheck (.t i6)⟩, ⟨(some i8), none, .fieldAddr 19 (.t i7)⟩, ⟨(some i9), none, .fieldAddr 1 (.t i8)⟩, ⟨(some i10), none, .load none (.t i9)⟩, ⟨(some i11), none, .build [(.int .i64 (.ofNat 0)), (.int .i64 (.ofNat 0)), (.bool false), (.int .i64 (.ofNat 0))] [(0, 1, (.t i10))]⟩, ⟨(some i12), none, .call i268 [(.t i4), (.t i5), (.t i11)]⟩])
  (.region [⟨(some i13), none, .move (.t i1)⟩, ⟨(some i14), none, .nilCheck (.t i13)⟩, ⟨(some i15), none, .fieldAddr 1 (.t i14)⟩, ⟨none, none, .store none (.t i15) (.c (.fn i198 [] []))⟩]))⟩
theorem tr272 : trFunc (tyIn Tryz.prog tyn) ibn Tryz.f272 = some af272 := by kernel_rfl
theorem nm272 : (Tryz.f272.name == "runtime.NumGoroutine") = false := by kernel_rfl
theorem good272 : GoodAt Tryz.prog tyn ibn i272 af272 := goodAt Tryz.func272 tr272 nm272 rfl
def af273 : AFunc := ⟨[.tmp i4], (.seq (.region [⟨(some i4), none, .move (.c (.int .i64 (.ofNat 0)))⟩])
  (.seq (.drawn [⟨0, .v, ⟨(some i5), none, .move (.t i0)⟩⟩, ⟨1, .v, ⟨(some i6), none, .nilCheck (.t i5)⟩⟩, ⟨2, .v, ⟨(some i7), none, .fieldAddr 13 (.t i6)⟩⟩, ⟨3, (.r 0), ⟨(some i8), none, .load none (.t i7)⟩⟩, ⟨4, (.r 0), ⟨(some i9), none, .load none (.t i1)⟩⟩, ⟨5, (.r 0), ⟨(some i10), none, .lookup .int .nilptr false (.t i8) (.t i9)⟩⟩, ⟨6, .e, ⟨none, none, .store none (.t i2) (.t i10)⟩⟩])
  (.seq (.region [⟨(some i4), none, .move (.c (.int .i64 (.ofNat 0)))⟩])
  .ret)))⟩
theorem tr273 : trFunc (tyIn Tryz.prog tyn) ibn Tryz.f273 = some af273 := by kernel_rfl
theorem nm273 : (Tryz.f273.name == "runtime.NumGoroutine") = false := by kernel_rfl
theorem good273 : GoodAt Tryz.prog tyn ibn i273 af273 := goodAt Tryz.func273 tr273 nm273 rfl
def af274 : AFunc := ⟨[.tmp i4], (.seq (.region [⟨(some i2), none, .box (.t i0)⟩, ⟨(some i3), none, .box (.t i1)⟩, ⟨(some i4), none, .move (.c .nilfn)⟩])
  (.seq (.region [⟨(some i5), none, .mkfn i282 [] [(.t i2), (.t i3)]⟩, ⟨(some i4), none, .move (.t i5)⟩])
  .ret))⟩
theorem tr274 : trFunc (tyIn Tryz.prog tyn) ibn Tryz.f274 = some af274 := by kernel_rfl
theorem nm274 : (Tryz.f274.name == "runtime.NumGoroutine") = false := by kernel_rfl
theorem good274 : GoodAt Tryz.prog tyn ibn i274 af274 := goodAt Tryz.func274 tr274 nm274 rfl
def af275 : AFunc := ⟨[.tmp i4], (.seq (.region [⟨(some i2), none, .box (.t i0)⟩, ⟨(some i4), none, .move (.c .nilslice)⟩])
  (.seq (.seq (.region [⟨(some i6), none, .move (.t i1)⟩])
  (.block 0 (.rangeFunc (.t i6) [i7] (.region [⟨(some i5), none, .move (.t i7)⟩]) (.block 1 (.region [⟨(some i8), none, .load none (.t i2)⟩, ⟨(some i9), none, .move (.t i5)⟩, ⟨(some i10), none, .buildSlice [(.int .i64 (.ofNat 0))] 1 [(0, 1, (.t i9))]⟩, ⟨(some i11), none, .append 1 (.t i8) (.t i10)⟩, ⟨none, none, .store none (.t i2) (.t i11)⟩])))))
  (.seq (.region [⟨(some i12), none, .load none (.t i2)⟩, ⟨(some i4), none, .move (.t i12)⟩])
  .ret)))⟩
theorem tr275 : trFunc (tyIn Tryz.prog tyn) ibn Tryz.f275 = some af275 := by kernel_rfl
theorem nm275 : (Tryz.f275.name == "runtime.NumGoroutine") = false := by kernel_rfl
theorem good275 : GoodAt Tryz.prog tyn ibn i275 af275 := goodAt Tryz.func275 tr275 nm275 rfl
def af276 : AFunc := ⟨[], (.seq (.region [⟨(some i8), none, .move (.c (.bool true))⟩])
  (.seq (.region [⟨(some i9), none, .move (.c (.bool true))⟩])
  (.block 0 (.loop (.block 1 (.seq (.region [⟨(some i19), none, .move (.t i2)⟩, ⟨(some i20), none, .move (.t i1)⟩, ⟨(some i21), none, .bin .sub (.t i19) (.t i20)⟩, ⟨(some i10), none, .move (.t i21)⟩])
  (.seq (.seq (.region [⟨(some i22), none, .move (.t i10)⟩, ⟨(some i23), none, .bin .leq (.t i22) (.c (.int .i64 (.ofNat 12)))⟩])
  (.cond (.t i23) (.seq (.region [⟨(some i24), none, .move (.t i0)⟩, ⟨(some i25), none, .move (.t i1)⟩, ⟨(some i26), none, .move (.t i2)⟩, ⟨(some i27), none, .call i284 [(.t i24), (.t i25), (.t i26)]⟩])
  .ret)
  .skip))
  (.seq (.seq (.region [⟨(some i28), none, .move (.t i3)⟩, ⟨(some i29), none, .bin (.eq .int) (.t i28) (.c (.int .i64 (.ofNat 0)))⟩])
  (.cond (.t i29) (.seq (.region [⟨(some i30), none, .move (.t i0)⟩, ⟨(some i31), none, .move (.t i1)⟩, ⟨(some i32), none, .move (.t i2)⟩, ⟨(some i33), none, .call i285 [(.t i30), (.t i31), (.t i32)]⟩])
  .ret)
  .skip))
  (.seq (.seq (.region [⟨(some i34), none, .move (.t i8)⟩, ⟨(some i35), none, .not (.t i34)⟩])
  (.cond (.t i35) (.seq (.region [⟨(some i36), none, .move (.t i0)⟩, ⟨(some i37), none, .move (.t i1)⟩, ⟨(some i38), none, .move (.t i2)⟩, ⟨(some i39), none, .call i286 [(.t i36), (.t i37), (.t i38)]⟩])
  (.region [⟨(some i40), none, .move (.t i3)⟩, ⟨(some i41), none, .bin .sub (.t i40) (.c (.int .i64 (.ofNat 1)))⟩, ⟨(some i3), none, .move (.t i41)⟩]))
  .skip))
  (.seq (.region [⟨(some i43), none, .move (.t i0)⟩, ⟨(some i44), none, .move (.t i1)⟩, ⟨(some i45), none, .move (.t i2)⟩, ⟨(some i46), none, .call i287 [(.t i43), (.t i44), (.t i45)]⟩, ⟨(some i42), none, .move (.t i46)⟩, ⟨(some i47), none, .extract 0 (.t i42)⟩, ⟨(some i48), none, .extract 1 (.t i42)⟩, ⟨(some i11), none, .move (.t i47)⟩, ⟨(some i12), none, .move (.t i48)⟩])
  (.seq (.seq (.region [⟨(some i49), none, .move (.t i12)⟩, ⟨(some i50), none, .bin (.eq .int) (.t i49) (.c (.int .i64 (.ofNat 2)))⟩])
  (.cond (.t i50) (.seq (.region [⟨(some i51), none, .move (.t i0)⟩, ⟨(some i52), none, .move (.t i1)⟩, ⟨(some i53), none, .move (.t i2)⟩, ⟨(some i54), none, .call i288 [(.t i51), (.t i52), (.t i53)]⟩])
  (.seq (.region [⟨(some i55), none, .move (.t i2)⟩, ⟨(some i56), none, .bin .sub (.t i55) (.c (.int .i64 (.ofNat 1)))⟩, ⟨(some i57), none, .move (.t i11)⟩, ⟨(some i58), none, .move (.t i1)⟩, ⟨(some i59), none, .bin .sub (.t i57) (.t i58)⟩, ⟨(some i60), none, .bin .sub (.t i56) (.t i59)⟩, ⟨(some i11), none, .move (.t i60)⟩])
  (.region [⟨(some i12), none, .move (.c (.int .i64 (.ofNat 1)))⟩])))
  .skip))
  (.seq (.seq (.region [⟨(some i61), none, .move (.t i8)⟩, ⟨(some i62), none, .move (.t i61)⟩, ⟨(some i63), (some (i62, true)), .move (.t i9)⟩, ⟨(some i64), none, .pick (.t i62) (.t i63) (.c (.bool false))⟩, ⟨(some i65), none, .move (.t i64)⟩, ⟨(some i66), (some (i65, true)), .move (.t i12)⟩, ⟨(some i67), (some (i65, true)), .bin (.eq .int) (.t i66) (.c (.int .i64 (.ofNat 1)))⟩, ⟨(some i68), none, .pick (.t i65) (.t i67) (.c (.bool false))⟩])
  (.cond (.t i68) (.seq (.region [⟨(some i69), none, .move (.t i0)⟩, ⟨(some i70), none, .move (.t i1)⟩, ⟨(some i71), none, .move (.t i2)⟩, ⟨(some i72), none, .call i289 [(.t i69), (.t i70), (.t i71)]⟩])
  (.cond (.t i72) .ret
  .skip))
  .skip))
  (.seq (.seq (.drawn [⟨0, .v, ⟨(some i73), none, .move (.t i1)⟩⟩, ⟨1, .v, ⟨(some i74), none, .bin .gtr (.t i73) (.c (.int .i64 (.ofNat 0)))⟩⟩, ⟨2, .v, ⟨(some i75), none, .move (.t i74)⟩⟩, ⟨3, .v, ⟨(some i76), (some (i75, true)), .move (.t i0)⟩⟩, ⟨4, .v, ⟨(some i77), (some (i75, true)), .move (.t i1)⟩⟩, ⟨5, .v, ⟨(some i78), (some (i75, true)), .bin .sub (.t i77) (.c (.int .i64 (.ofNat 1)))⟩⟩, ⟨6, .v, ⟨(some i79), (some (i75, true)), .indexSl 1 (.t i76) (.t i78)⟩⟩, ⟨7, (.r 0), ⟨(some i80), (some (i75, true)), .load none (.t i79)⟩⟩, ⟨8, .v, ⟨(some i81), (some (i75, true)), .move (.t i0)⟩⟩, ⟨9, .v, ⟨(some i82), (some (i75, true)), .move (.t i11)⟩⟩, ⟨10, .v, ⟨(some i83), (some (i75, true)), .indexSl 1 (.t i81) (.t i82)⟩⟩, ⟨11, (.r 0), ⟨(some i84), (some (i75, true)), .load none (.t i83)⟩⟩, ⟨12, .e, ⟨(some i85), (some (i75, true)), .call i290 [(.t i80), (.t i84)]⟩⟩, ⟨13, .v, ⟨(some i86), (some (i75, true)), .not (.t i85)⟩⟩, ⟨14, .v, ⟨(some i87), none, .pick (.t i75) (.t i86) (.c (.bool false))⟩⟩])
  (.cond (.t i87) (.seq (.region [⟨(some i88), none, .move (.t i0)⟩, ⟨(some i89), none, .move (.t i1)⟩, ⟨(some i90), none, .move (.t i2)⟩, ⟨(some i91), none, .move (.t i11)⟩, ⟨(some i92), none, .call i291 [(.t i88), (.t i89), (.t i90), (.t i91)]⟩, ⟨(some i13), none, .move (.t i92)⟩])
  (.seq (.region [⟨(some i93), none, .move (.t i13)⟩, ⟨(some i1), none, .move (.t i93)⟩])
  (.exit 1)))
  .skip))
  (.seq (.region [⟨(some i95), none, .move (.t i0)⟩, ⟨(some i96), none, .move (.t i1)⟩, ⟨(some i97), none, .move (.t i2)⟩, ⟨(some i98), none, .move (.t i11)⟩, ⟨(some i99), none, .call i292 [(.t i95), (.t i96), (.t i97), (.t i98)]⟩, ⟨(some i94), none, .move (.t i99)⟩, ⟨(some i100), none, .extract 0 (.t i94)⟩, ⟨(some i101), none, .extract 1 (.t i94)⟩, ⟨(some i14), none, .move (.t i100)⟩, ⟨(some i15), none, .move (.t i101)⟩])
  (.seq (.region [⟨(some i102), none, .move (.t i15)⟩, ⟨(some i9), none, .move (.t i102)⟩])
  (.seq (.region [⟨(some i103), none, .move (.t i14)⟩, ⟨(some i104), none, .move (.t i1)⟩, ⟨(some i105), none, .bin .sub (.t i103) (.t i104)⟩, ⟨(some i106), none, .move (.t i2)⟩, ⟨(some i107), none, .move (.t i14)⟩, ⟨(some i108), none, .bin .sub (.t i106) (.t i107)⟩, ⟨(some i16), none, .move (.t i105)⟩, ⟨(some i17), none, .move (.t i108)⟩])
  (.seq (.region [⟨(some i109), none, .move (.t i10)⟩, ⟨(some i110), none, .bin .quo (.t i109) (.c (.int .i64 (.ofNat 8)))⟩, ⟨(some i18), none, .move (.t i110)⟩])
  (.seq (.region [⟨(some i111), none, .move (.t i16)⟩, ⟨(some i112), none, .move (.t i17)⟩, ⟨(some i113), none, .bin .lss (.t i111) (.t i112)⟩])
  (.cond (.t i113) (.seq (.region [⟨(some i114), none, .move (.t i16)⟩, ⟨(some i115), none, .move (.t i18)⟩, ⟨(some i116), none, .bin .geq (.t i114) (.t i115)⟩, ⟨(some i8), none, .move (.t i116)⟩])
  (.seq (.region [⟨(some i117), none, .move (.t i0)⟩, ⟨(some i118), none, .move (.t i1)⟩, ⟨(some i119), none, .move (.t i14)⟩, ⟨(some i120), none, .move (.t i3)⟩, ⟨(some i121), none, .call i276 [(.t i117), (.t i118), (.t i119), (.t i120)]⟩])
  (.region [⟨(some i122), none, .move (.t i14)⟩, ⟨(some i123), none, .bin .add (.t i122) (.c (.int .i64 (.ofNat 1)))⟩, ⟨(some i1), none, .move (.t i123)⟩])))
  (.seq (.region [⟨(some i124), none, .move (.t i17)⟩, ⟨(some i125), none, .move (.t i18)⟩, ⟨(some i126), none, .bin .geq (.t i124) (.t i125)⟩, ⟨(some i8), none, .move (.t i126)⟩])
  (.seq (.region [⟨(some i127), none, .move (.t i0)⟩, ⟨(some i128), none, .move (.t i14)⟩, ⟨(some i129), none, .bin .add (.t i128) (.c (.int .i64 (.ofNat 1)))⟩, ⟨(some i130), none, .move (.t i2)⟩, ⟨(some i131), none, .move (.t i3)⟩, ⟨(some i132), none, .call i276 [(.t i127), (.t i129), (.t i130), (.t i131)]⟩])
  (.region [⟨(some i133), none, .move (.t i14)⟩, ⟨(some i2), none, .move (.t i133)⟩]))))))))))))))))))))))⟩
theorem tr276 : trFunc (tyIn Tryz.prog tyn) ibn Tryz.f276 = some af276 := by kernel_rfl
theorem nm276 : (Tryz.f276.name == "runtime.NumGoroutine") = false := by kernel_rfl
theorem good276 : GoodAt Tryz.prog tyn ibn i276 af276 := goodAt Tryz.func276 tr276 nm276 rfl
def af277 : AFunc := ⟨[.tmp i2], (.seq (.region [⟨(some i2), none, .move (.c (.int .i64 (.ofNat 0)))⟩])
  (.seq (.cond (.c (.bool false)) (.seq (.region [⟨(some i3), none, .move (.t i0)⟩, ⟨(some i4), none, .conv .u32 (.t i3)⟩, ⟨(some i5), none, .call i293 [(.t i4)]⟩, ⟨(some i2), none, .move (.t i5)⟩])
  .ret)
  .skip)
  (.seq (.region [⟨(some i6), none, .move (.t i0)⟩, ⟨(some i7), none, .call i294 [(.t i6)]⟩, ⟨(some i2), none, .move (.t i7)⟩])
  .ret)))⟩
theorem tr277 : trFunc (tyIn Tryz.prog tyn) ibn Tryz.f277 = some af277 := by kernel_rfl
theorem nm277 : (Tryz.f277.name == "runtime.NumGoroutine") = false := by kernel_rfl
theorem good277 : GoodAt Tryz.prog tyn ibn i277 af277 := goodAt Tryz.func277 tr277 nm277 rfl
def af278 : AFunc := ⟨[], (.seq (.drawn [⟨0, .v, ⟨(some i5), none, .move (.t i0)⟩⟩, ⟨1, .v, ⟨(some i6), none, .nilCheck (.t i5)⟩⟩, ⟨2, (.r 0), ⟨(some i7), none, .load none (.t i6)⟩⟩, ⟨3, (.r 0), ⟨(some i8), none, .load none (.t i1)⟩⟩, ⟨4, .v, ⟨(some i9), none, .bin (.eq .int) (.t i7) (.t i8)⟩⟩, ⟨5, .e, ⟨none, none, .store none (.t i2) (.t i9)⟩⟩])
  (.seq (.region [⟨(some i10), none, .load none (.t i2)⟩])
  (.cond (.t i10) (.region [⟨(some i11), none, .move (.t i0)⟩, ⟨(some i12), none, .load none (.t i3)⟩, ⟨(some i13), none, .nilCheck (.t i11)⟩, ⟨none, none, .store none (.t i13) (.t i12)⟩])
  .skip)))⟩
theorem tr278 : trFunc (tyIn Tryz.prog tyn) ibn Tryz.f278 = some af278 := by kernel_rfl
theorem nm278 : (Tryz.f278.name == "runtime.NumGoroutine") = false := by kernel_rfl
theorem good278 : GoodAt Tryz.prog tyn ibn i278 af278 := goodAt Tryz.func278 tr278 nm278 rfl
def af279 : AFunc := ⟨[.tmp i6], (.seq (.region [⟨(some i5), none, .box (.t i2)⟩, ⟨(some i6), none, .move (.c (.int .i64 (.ofNat 0)))⟩])
  (.seq (.region [⟨(some i7), none, .move (.t i0)⟩, ⟨(some i8), none, .move (.t i1)⟩, ⟨(some i9), none, .mkfn i295 [] [(.t i5)]⟩, ⟨(some i10), none, .call i114 [(.t i7), (.t i8), (.t i9)]⟩, ⟨(some i6), none, .move (.t i10)⟩])
  .ret))⟩
theorem tr279 : trFunc (tyIn Tryz.prog tyn) ibn Tryz.f279 = some af279 := by kernel_rfl
theorem nm279 : (Tryz.f279.name == "runtime.NumGoroutine") = false := by kernel_rfl
theorem good279 : GoodAt Tryz.prog tyn ibn i279 af279 := goodAt Tryz.func279 tr279 nm279 rfl
def af280 : AFunc := ⟨[.tmp i4, .tmp i5], (.seq (.region [⟨(some i4), none, .move (.c (.int .i64 (.ofNat 0)))⟩, ⟨(some i5), none, .move (.c (.int .i64 (.ofNat 0)))⟩])
  (.seq (.block 0 (.seq (.region [⟨(some i9), none, .move (.t i0)⟩, ⟨(some i10), none, .bin (.eq .ptr) (.t i9) (.c .nilptr)⟩, ⟨(some i8), none, .move (.t i10)⟩])
  (.cond (.t i8) (.seq (.region [⟨(some i4), none, .move (.c (.int .i64 (.ofNat 0)))⟩, ⟨(some i5), none, .move (.c (.int .i64 (.ofNat 1)))⟩])
  .ret)
  (.seq (.drawn [⟨0, .v, ⟨(some i12), none, .move (.t i0)⟩⟩, ⟨1, .v, ⟨(some i13), none, .nilCheck (.t i12)⟩⟩, ⟨2, .v, ⟨(some i14), none, .fieldAddr 10 (.t i13)⟩⟩, ⟨3, (.r 0), ⟨(some i15), none, .load none (.t i14)⟩⟩, ⟨4, .v, ⟨(some i16), none, .bin (.eq .int) (.t i15) (.c (.int .i64 (.ofNat 0)))⟩⟩, ⟨5, .v, ⟨(some i17), none, .move (.t i16)⟩⟩, ⟨6, .v, ⟨(some i18), (some (i17, false)), .move (.t i0)⟩⟩, ⟨7, .v, ⟨(some i19), (some (i17, false)), .nilCheck (.t i18)⟩⟩, ⟨8, .v, ⟨(some i20), (some (i17, false)), .fieldAddr 10 (.t i19)⟩⟩, ⟨9, (.r 0), ⟨(some i21), (some (i17, false)), .load none (.t i20)⟩⟩, ⟨10, .v, ⟨(some i22), (some (i17, false)), .move (.t i0)⟩⟩, ⟨11, .v, ⟨(some i23), (some (i17, false)), .nilCheck (.t i22)⟩⟩, ⟨12, .v, ⟨(some i24), (some (i17, false)), .fieldAddr 8 (.t i23)⟩⟩, ⟨13, (.r 0), ⟨(some i25), (some (i17, false)), .load none (.t i24)⟩⟩, ⟨14, .v, ⟨(some i26), (some (i17, false)), .bin .lss (.t i21) (.t i25)⟩⟩, ⟨15, .v, ⟨(some i27), none, .pick (.t i17) (.c (.bool true)) (.t i26)⟩⟩, ⟨16, .v, ⟨(some i11), none, .move (.t i27)⟩⟩])
  (.cond (.t i11) (.seq (.region [⟨(some i4), none, .move (.c (.int .i64 (.ofNat 0)))⟩, ⟨(some i5), none, .move (.c (.int .i64 (.ofNat 3)))⟩])
  .ret)
  .skip)))))
  (.seq (.region [⟨(some i29), none, .move (.t i0)⟩, ⟨(some i30), none, .call i254 [(.t i29)]⟩, ⟨(some i28), none, .move (.t i30)⟩, ⟨(some i31), none, .extract 0 (.t i28)⟩, ⟨(some i32), none, .extract 1 (.t i28)⟩, ⟨(some i6), none, .move (.t i31)⟩, ⟨(some i7), none, .move (.t i32)⟩])
  (.seq (.region [⟨(some i33), none, .move (.t i0)⟩, ⟨(some i34), none, .move (.t i1)⟩, ⟨(some i35), none, .call i253 [(.t i33), (.t i34)]⟩])
  (.seq (.region [⟨(some i36), none, .move (.t i6)⟩, ⟨(some i4), none, .move (.t i36)⟩, ⟨(some i5), none, .move (.c (.int .i64 (.ofNat 0)))⟩])
  .ret)))))⟩
theorem tr280 : trFunc (tyIn Tryz.prog tyn) ibn Tryz.f280 = some af280 := by kernel_rfl
theorem nm280 : (Tryz.f280.name == "runtime.NumGoroutine") = false := by kernel_rfl
theorem good280 : GoodAt Tryz.prog tyn ibn i280 af280 := goodAt Tryz.func280 tr280 nm280 rfl
def af281 : AFunc := ⟨[.tmp i3], (.seq (.region [⟨(some i3), none, .move (.c (.int .i64 (.ofNat 0)))⟩])
  (.seq (.drawn [⟨0, (.r 0), ⟨(some i4), none, .load none (.t i1)⟩⟩, ⟨1, .v, ⟨(some i5), none, .nilCheck (.t i4)⟩⟩, ⟨2, .v, ⟨(some i6), none, .fieldAddr 9 (.t i5)⟩⟩, ⟨3, (.r 0), ⟨(some i7), none, .load none (.t i6)⟩⟩, ⟨4, .v, ⟨(some i8), none, .move (.t i0)⟩⟩, ⟨5, .v, ⟨(some i9), none, .bin .add (.t i7) (.t i8)⟩⟩, ⟨6, (.r 0), ⟨(some i10), none, .load none (.t i1)⟩⟩, ⟨7, .v, ⟨(some i11), none, .nilCheck (.t i10)⟩⟩, ⟨8, .v, ⟨(some i12), none, .fieldAddr 8 (.t i11)⟩⟩, ⟨9, (.r 0), ⟨(some i13), none, .load none (.t i12)⟩⟩, ⟨10, .v, ⟨(some i14), none, .bin .rem (.t i9) (.t i13)⟩⟩, ⟨11, .v, ⟨(some i3), none, .move (.t i14)⟩⟩])
  .ret))⟩
theorem tr281 : trFunc (tyIn Tryz.prog tyn) ibn Tryz.f281 = some af281 := by kernel_rfl
theorem nm281 : (Tryz.f281.name == "runtime.NumGoroutine") = false := by kernel_rfl
theorem good281 : GoodAt Tryz.prog tyn ibn i281 af281 := goodAt Tryz.func281 tr281 nm281 rfl
def af282 : AFunc := ⟨[], (.seq (.region [⟨(some i6), none, .load none (.t i1)⟩, ⟨(some i7), none, .call i242 [(.t i6)]⟩, ⟨(some i8), none, .lenSl (.t i7)⟩, ⟨(some i9), none, .move (.c (.int .i64 (.ofNat 0)))⟩])
  (.block 0 (.loop (.seq (.region [⟨(some i10), none, .bin .lss (.t i9) (.t i8)⟩])
  (.seq (.cond (.t i10) .skip
  (.exit 0))
  (.seq (.block 1 (.seq (.region [⟨(some i11), none, .indexSl 1 (.t i7) (.t i9)⟩, ⟨(some i12), none, .load none (.t i11)⟩, ⟨(some i5), none, .move (.t i12)⟩])
  (.seq (.region [⟨(some i13), none, .load none (.t i2)⟩, ⟨(some i14), none, .move (.t i5)⟩, ⟨(some i15), none, .call i283 [(.t i13), (.t i14)]⟩, ⟨(some i16), none, .move (.t i15)⟩, ⟨(some i17), (some (i16, true)), .move (.t i0)⟩, ⟨(some i18), (some (i16, true)), .move (.t i5)⟩, ⟨(some i19), (some (i16, true)), .callv (.t i17) [(.t i18)]⟩, ⟨(some i20), (some (i16, true)), .not (.t i19)⟩, ⟨(some i21), none, .pick (.t i16) (.t i20) (.c (.bool false))⟩])
  (.cond (.t i21) .ret
  .skip))))
  (.region [⟨(some i22), none, .bin .add (.t i9) (.c (.int .i64 (.ofNat 1)))⟩, ⟨(some i9), none, .move (.t i22)⟩])))))))⟩
theorem tr282 : trFunc (tyIn Tryz.prog tyn) ibn Tryz.f282 = some af282 := by kernel_rfl
theorem nm282 : (Tryz.f282.name == "runtime.NumGoroutine") = false := by kernel_rfl
theorem good282 : GoodAt Tryz.prog tyn ibn i282 af282 := goodAt Tryz.func282 tr282 nm282 rfl
def af283 : AFunc := ⟨[.tmp i4], (.seq (.region [⟨(some i4), none, .move (.c (.bool false))⟩])
  (.seq (.region [⟨(some i5), none, .move (.t i0)⟩, ⟨(some i6), none, .move (.t i1)⟩, ⟨(some i7), none, .call i239 [(.t i6)]⟩, ⟨(some i8), none, .bin .and (.t i5) (.t i7)⟩, ⟨(some i9), none, .bin (.ne .int) (.t i8) (.c (.int .u64 (.ofNat 0)))⟩, ⟨(some i4), none, .move (.t i9)⟩])
  .ret))⟩
theorem tr283 : trFunc (tyIn Tryz.prog tyn) ibn Tryz.f283 = some af283 := by kernel_rfl
theorem nm283 : (Tryz.f283.name == "runtime.NumGoroutine") = false := by kernel_rfl
theorem good283 : GoodAt Tryz.prog tyn ibn i283 af283 := goodAt Tryz.func283 tr283 nm283 rfl
def af284 : AFunc := ⟨[], (.seq (.region [⟨(some i8), none, .move (.t i1)⟩, ⟨(some i9), none, .bin .add (.t i8) (.c (.int .i64 (.ofNat 1)))⟩, ⟨(some i6), none, .move (.t i9)⟩])
  (.block 0 (.loop (.seq (.seq (.region [⟨(some i10), none, .move (.t i6)⟩, ⟨(some i11), none, .move (.t i2)⟩, ⟨(some i12), none, .bin .lss (.t i10) (.t i11)⟩])
  (.cond (.t i12) .skip
  (.exit 0)))
  (.seq (.block 1 (.seq (.region [⟨(some i15), none, .move (.t i6)⟩, ⟨(some i7), none, .move (.t i15)⟩])
  (.block 2 (.loop (.seq (.seq (.drawn [⟨0, .v, ⟨(some i16), none, .move (.t i7)⟩⟩, ⟨1, .v, ⟨(some i17), none, .move (.t i1)⟩⟩, ⟨2, .v, ⟨(some i18), none, .bin .gtr (.t i16) (.t i17)⟩⟩, ⟨3, .v, ⟨(some i19), none, .move (.t i18)⟩⟩, ⟨4, .v, ⟨(some i20), (some (i19, true)), .move (.t i0)⟩⟩, ⟨5, .v, ⟨(some i21), (some (i19, true)), .move (.t i7)⟩⟩, ⟨6, .v, ⟨(some i22), (some (i19, true)), .indexSl 1 (.t i20) (.t i21)⟩⟩, ⟨7, (.r 0), ⟨(some i23), (some (i19, true)), .load none (.t i22)⟩⟩, ⟨8, .v, ⟨(some i24), (some (i19, true)), .move (.t i0)⟩⟩, ⟨9, .v, ⟨(some i25), (some (i19, true)), .move (.t i7)⟩⟩, ⟨10, .v, ⟨(some i26), (some (i19, true)), .bin .sub (.t i25) (.c (.int .i64 (.ofNat 1)))⟩⟩, ⟨11, .v, ⟨(some i27), (some (i19, true)), .indexSl 1 (.t i24) (.t i26)⟩⟩, ⟨12, (.r 0), ⟨(some i28), (some (i19, true)), .load none (.t i27)⟩⟩, ⟨13, .e, ⟨(some i29), (some (i19, true)), .call i290 [(.t i23), (.t i28)]⟩⟩, ⟨14, .v, ⟨(some i30), none, .pick (.t i19) (.t i29) (.c (.bool false))⟩⟩])
  (.cond (.t i30) .skip
  (.exit 2)))
  (.seq (.block 3 (.drawn [⟨0, .v, ⟨(some i33), none, .move (.t i0)⟩⟩, ⟨1, .v, ⟨(some i34), none, .move (.t i7)⟩⟩, ⟨5, .v, ⟨(some i38), none, .move (.t i0)⟩⟩, ⟨6, .v, ⟨(some i39), none, .move (.t i7)⟩⟩, ⟨7, .v, ⟨(some i40), none, .bin .sub (.t i39) (.c (.int .i64 (.ofNat 1)))⟩⟩, ⟨8, .v, ⟨(some i41), none, .indexSl 1 (.t i38) (.t i40)⟩⟩, ⟨9, (.r 0), ⟨(some i42), none, .load none (.t i41)⟩⟩, ⟨10, .v, ⟨(some i43), none, .move (.t i0)⟩⟩, ⟨11, .v, ⟨(some i44), none, .move (.t i7)⟩⟩, ⟨12, .v, ⟨(some i45), none, .indexSl 1 (.t i43) (.t i44)⟩⟩, ⟨13, (.r 0), ⟨(some i46), none, .load none (.t i45)⟩⟩, ⟨14, .v, ⟨(some i47), none, .indexSl 1 (.t i33) (.t i34)⟩⟩, ⟨15, .e, ⟨none, none, .store none (.t i47) (.t i42)⟩⟩, ⟨2, .v, ⟨(some i35), none, .move (.t i0)⟩⟩, ⟨3, .v, ⟨(some i36), none, .move (.t i7)⟩⟩, ⟨4, .v, ⟨(some i37), none, .bin .sub (.t i36) (.c (.int .i64 (.ofNat 1)))⟩⟩, ⟨16, .v, ⟨(some i48), none, .indexSl 1 (.t i35) (.t i37)⟩⟩, ⟨17, .e, ⟨none, none, .store none (.t i48) (.t i46)⟩⟩]))
  (.region [⟨(some i31), none, .move (.t i7)⟩, ⟨(some i32), none, .bin .sub (.t i31) (.c (.int .i64 (.ofNat 1)))⟩, ⟨(some i7), none, .move (.t i32)⟩])))))))
  (.region [⟨(some i13), none, .move (.t i6)⟩, ⟨(some i14), none, .bin .add (.t i13) (.c (.int .i64 (.ofNat 1)))⟩, ⟨(some i6), none, .move (.t i14)⟩]))))))⟩
theorem tr284 : trFunc (tyIn Tryz.prog tyn) ibn Tryz.f284 = some af284 := by kernel_rfl
theorem nm284 : (Tryz.f284.name == "runtime.NumGoroutine") = false := by kernel_rfl
theorem good284 : GoodAt Tryz.prog tyn ibn i284 af284 := goodAt Tryz.func284 tr284 nm284 rfl
def af285 : AFunc := ⟨[], (.seq (.region [⟨(some i11), none, .move (.t i1)⟩, ⟨(some i6), none, .move (.t i11)⟩])
  (.seq (.region [⟨(some i7), none, .move (.c (.int .i64 (.ofNat 0)))⟩])
  (.seq (.region [⟨(some i12), none, .move (.t i2)⟩, ⟨(some i13), none, .move (.t i1)⟩, ⟨(some i14), none, .bin .sub (.t i12) (.t i13)⟩, ⟨(some i8), none, .move (.t i14)⟩])
  (.seq (.seq (.region [⟨(some i15), none, .move (.t i8)⟩, ⟨(some i16), none, .bin .sub (.t i15) (.c (.int .i64 (.ofNat 1)))⟩, ⟨(some i17), none, .bin .quo (.t i16) (.c (.int .i64 (.ofNat 2)))⟩, ⟨(some i9), none, .move (.t i17)⟩])
  (.block 0 (.loop (.seq (.seq (.region [⟨(some i18), none, .move (.t i9)⟩, ⟨(some i19), none, .bin .geq (.t i18) (.c (.int .i64 (.ofNat 0)))⟩])
  (.cond (.t i19) .skip
  (.exit 0)))
  (.seq (.block 1 (.region [⟨(some i22), none, .move (.t i0)⟩, ⟨(some i23), none, .move (.t i9)⟩, ⟨(some i24), none, .move (.t i8)⟩, ⟨(some i25), none, .move (.t i6)⟩, ⟨(some i26), none, .call i297 [(.t i22), (.t i23), (.t i24), (.t i25)]⟩]))
  (.region [⟨(some i20), none, .move (.t i9)⟩, ⟨(some i21), none, .bin .sub (.t i20) (.c (.int .i64 (.ofNat 1)))⟩, ⟨(some i9), none, .move (.t i21)⟩]))))))
  (.seq (.region [⟨(some i27), none, .move (.t i8)⟩, ⟨(some i28), none, .bin .sub (.t i27) (.c (.int .i64 (.ofNat 1)))⟩, ⟨(some i10), none, .move (.t i28)⟩])
  (.block 2 (.loop (.seq (.seq (.region [⟨(some i29), none, .move (.t i10)⟩, ⟨(some i30), none, .bin .geq (.t i29) (.c (.int .i64 (.ofNat 0)))⟩])
  (.cond (.t i30) .skip
  (.exit 2)))
  (.seq (.block 3 (.seq (.drawn [⟨0, .v, ⟨(some i33), none, .move (.t i0)⟩⟩, ⟨1, .v, ⟨(some i34), none, .move (.t i6)⟩⟩, ⟨6, .v, ⟨(some i39), none, .move (.t i0)⟩⟩, ⟨7, .v, ⟨(some i40), none, .move (.t i6)⟩⟩, ⟨8, .v, ⟨(some i41), none, .move (.t i10)⟩⟩, ⟨9, .v, ⟨(some i42), none, .bin .add (.t i40) (.t i41)⟩⟩, ⟨10, .v, ⟨(some i43), none, .indexSl 1 (.t i39) (.t i42)⟩⟩, ⟨11, (.r 0), ⟨(some i44), none, .load none (.t i43)⟩⟩, ⟨12, .v, ⟨(some i45), none, .move (.t i0)⟩⟩, ⟨13, .v, ⟨(some i46), none, .move (.t i6)⟩⟩, ⟨14, .v, ⟨(some i47), none, .indexSl 1 (.t i45) (.t i46)⟩⟩, ⟨15, (.r 0), ⟨(some i48), none, .load none (.t i47)⟩⟩, ⟨16, .v, ⟨(some i49), none, .indexSl 1 (.t i33) (.t i34)⟩⟩, ⟨17, .e, ⟨none, none, .store none (.t i49) (.t i44)⟩⟩, ⟨2, .v, ⟨(some i35), none, .move (.t i0)⟩⟩, ⟨3, .v, ⟨(some i36), none, .move (.t i6)⟩⟩, ⟨4, .v, ⟨(some i37), none, .move (.t i10)⟩⟩, ⟨5, .v, ⟨(some i38), none, .bin .add (.t i36) (.t i37)⟩⟩, ⟨18, .v, ⟨(some i50), none, .indexSl 1 (.t i35) (.t i38)⟩⟩, ⟨19, .e, ⟨none, none, .store none (.t i50) (.t i48)⟩⟩])
  (.region [⟨(some i51), none, .move (.t i0)⟩, ⟨(some i52), none, .move (.t i7)⟩, ⟨(some i53), none, .move (.t i10)⟩, ⟨(some i54), none, .move (.t i6)⟩, ⟨(some i55), none, .call i297 [(.t i51), (.t i52), (.t i53), (.t i54)]⟩])))
  (.region [⟨(some i31), none, .move (.t i10)⟩, ⟨(some i32), none, .bin .sub (.t i31) (.c (.int .i64 (.ofNat 1)))⟩, ⟨(some i10), none, .move (.t i32)⟩]))))))))))⟩
theorem tr285 : trFunc (tyIn Tryz.prog tyn) ibn Tryz.f285 = some af285 := by kernel_rfl
theorem nm285 : (Tryz.f285.name == "runtime.NumGoroutine") = false := by kernel_rfl
theorem good285 : GoodAt Tryz.prog tyn ibn i285 af285 := goodAt Tryz.func285 tr285 nm285 rfl
def af286 : AFunc := ⟨[], (.seq (.region [⟨(some i11), none, .move (.t i2)⟩, ⟨(some i12), none, .move (.t i1)⟩, ⟨(some i13), none, .bin .sub (.t i11) (.t i12)⟩, ⟨(some i6), none, .move (.t i13)⟩])
  (.seq (.region [⟨(some i14), none, .move (.t i6)⟩, ⟨(some i15), none, .bin .geq (.t i14) (.c (.int .i64 (.ofNat 8)))⟩])
  (.cond (.t i15) (.seq (.region [⟨(some i16), none, .move (.t i6)⟩, ⟨(some i17), none, .conv .u64 (.t i16)⟩, ⟨(some i7), none, .alloc [(.int .u64 (.ofNat 0))]⟩, ⟨none, none, .store none (.t i7) (.t i17)⟩])
  (.seq (.region [⟨(some i18), none, .move (.t i6)⟩, ⟨(some i19), none, .call i298 [(.t i18)]⟩, ⟨(some i8), none, .move (.t i19)⟩])
  (.seq (.region [⟨(some i20), none, .move (.t i1)⟩, ⟨(some i21), none, .move (.t i6)⟩, ⟨(some i22), none, .bin .quo (.t i21) (.c (.int .i64 (.ofNat 4)))⟩, ⟨(some i23), none, .bin .mul (.t i22) (.c (.int .i64 (.ofNat 2)))⟩, ⟨(some i24), none, .bin .add (.t i20) (.t i23)⟩, ⟨(some i25), none, .bin .sub (.t i24) (.c (.int .i64 (.ofNat 1)))⟩, ⟨(some i9), none, .move (.t i25)⟩])
  (.block 0 (.loop (.seq (.seq (.region [⟨(some i26), none, .move (.t i9)⟩, ⟨(some i27), none, .move (.t i1)⟩, ⟨(some i28), none, .move (.t i6)⟩, ⟨(some i29), none, .bin .quo (.t i28) (.c (.int .i64 (.ofNat 4)))⟩, ⟨(some i30), none, .bin .mul (.t i29) (.c (.int .i64 (.ofNat 2)))⟩, ⟨(some i31), none, .bin .add (.t i27) (.t i30)⟩, ⟨(some i32), none, .bin .add (.t i31) (.c (.int .i64 (.ofNat 1)))⟩, ⟨(some i33), none, .bin .leq (.t i26) (.t i32)⟩])
  (.cond (.t i33) .skip
  (.exit 0)))
  (.seq (.block 1 (.seq (.region [⟨(some i36), none, .call i299 [(.t i7)]⟩, ⟨(some i37), none, .move (.t i8)⟩, ⟨(some i38), none, .bin .sub (.t i37) (.c (.int .u64 (.ofNat 1)))⟩, ⟨(some i39), none, .bin .and (.t i36) (.t i38)⟩, ⟨(some i40), none, .conv .i64 (.t i39)⟩, ⟨(some i10), none, .move (.t i40)⟩])
  (.seq (.seq (.region [⟨(some i41), none, .move (.t i10)⟩, ⟨(some i42), none, .move (.t i6)⟩, ⟨(some i43), none, .bin .geq (.t i41) (.t i42)⟩])
  (.cond (.t i43) (.region [⟨(some i44), none, .move (.t i10)⟩, ⟨(some i45), none, .move (.t i6)⟩, ⟨(some i46), none, .bin .sub (.t i44) (.t i45)⟩, ⟨(some i10), none, .move (.t i46)⟩])
  .skip))
  (.drawn [⟨0, .v, ⟨(some i47), none, .move (.t i0)⟩⟩, ⟨1, .v, ⟨(some i48), none, .move (.t i9)⟩⟩, ⟨6, .v, ⟨(some i53), none, .move (.t i0)⟩⟩, ⟨7, .v, ⟨(some i54), none, .move (.t i1)⟩⟩, ⟨8, .v, ⟨(some i55), none, .move (.t i10)⟩⟩, ⟨9, .v, ⟨(some i56), none, .bin .add (.t i54) (.t i55)⟩⟩, ⟨10, .v, ⟨(some i57), none, .indexSl 1 (.t i53) (.t i56)⟩⟩, ⟨11, (.r 0), ⟨(some i58), none, .load none (.t i57)⟩⟩, ⟨12, .v, ⟨(some i59), none, .move (.t i0)⟩⟩, ⟨13, .v, ⟨(some i60), none, .move (.t i9)⟩⟩, ⟨14, .v, ⟨(some i61), none, .indexSl 1 (.t i59) (.t i60)⟩⟩, ⟨15, (.r 0), ⟨(some i62), none, .load none (.t i61)⟩⟩, ⟨16, .v, ⟨(some i63), none, .indexSl 1 (.t i47) (.t i48)⟩⟩, ⟨17, .e, ⟨none, none, .store none (.t i63) (.t i58)⟩⟩, ⟨2, .v, ⟨(some i49), none, .move (.t i0)⟩⟩, ⟨3, .v, ⟨(some i50), none, .move (.t i1)⟩⟩, ⟨4, .v, ⟨(some i51), none, .move (.t i10)⟩⟩, ⟨5, .v, ⟨(some i52), none, .bin .add (.t i50) (.t i51)⟩⟩, ⟨18, .v, ⟨(some i64), none, .indexSl 1 (.t i49) (.t i52)⟩⟩, ⟨19, .e, ⟨none, none, .store none (.t i64) (.t i62)⟩⟩]))))
  (.region [⟨(some i34), none, .move (.t i9)⟩, ⟨(some i35), none, .bin .add (.t i34) (.c (.int .i64 (.ofNat 1)))⟩, ⟨(some i9), none, .move (.t i35)⟩]))))))))
  .skip)))⟩
theorem tr286 : trFunc (tyIn Tryz.prog tyn) ibn Tryz.f286 = some af286 := by kernel_rfl
theorem nm286 : (Tryz.f286.name == "runtime.NumGoroutine") = false := by kernel_rfl
theorem good286 : GoodAt Tryz.prog tyn ibn i286 af286 := goodAt Tryz.func286 tr286 nm286 rfl
def af287 : AFunc := ⟨[.tmp i6, .tmp i7], (.seq (.region [⟨(some i6), none, .move (.c (.int .i64 (.ofNat 0)))⟩, ⟨(some i7), none, .move (.c (.int .i64 (.ofNat 0)))⟩])
  (.seq (.region [⟨(some i13), none, .move (.t i2)⟩, ⟨(some i14), none, .move (.t i1)⟩, ⟨(some i15), none, .bin .sub (.t i13) (.t i14)⟩, ⟨(some i8), none, .move (.t i15)⟩])
  (.seq (.region [⟨(some i9), none, .alloc [(.int .i64 (.ofNat 0))]⟩])
  (.seq (.region [⟨(some i16), none, .move (.t i1)⟩, ⟨(some i17), none, .move (.t i8)⟩, ⟨(some i18), none, .bin .quo (.t i17) (.c (.int .i64 (.ofNat 4)))⟩, ⟨(some i19), none, .bin .mul (.t i18) (.c (.int .i64 (.ofNat 1)))⟩, ⟨(some i20), none, .bin .add (.t i16) (.t i19)⟩, ⟨(some i10), none, .move (.t i20)⟩])
  (.seq (.region [⟨(some i21), none, .move (.t i1)⟩, ⟨(some i22), none, .move (.t i8)⟩, ⟨(some i23), none, .bin .quo (.t i22) (.c (.int .i64 (.ofNat 4)))⟩, ⟨(some i24), none, .bin .mul (.t i23) (.c (.int .i64 (.ofNat 2)))⟩, ⟨(some i25), none, .bin .add (.t i21) (.t i24)⟩, ⟨(some i11), none, .move (.t i25)⟩])
  (.seq (.region [⟨(some i26), none, .move (.t i1)⟩, ⟨(some i27), none, .move (.t i8)⟩, ⟨(some i28), none, .bin .quo (.t i27) (.c (.int .i64 (.ofNat 4)))⟩, ⟨(some i29), none, .bin .mul (.t i28) (.c (.int .i64 (.ofNat 3)))⟩, ⟨(some i30), none, .bin .add (.t i26) (.t i29)⟩, ⟨(some i12), none, .move (.t i30)⟩])
  (.seq (.seq (.region [⟨(some i31), none, .move (.t i8)⟩, ⟨(some i32), none, .bin .geq (.t i31) (.c (.int .i64 (.ofNat 8)))⟩])
  (.cond (.t i32) (.seq (.seq (.region [⟨(some i33), none, .move (.t i8)⟩, ⟨(some i34), none, .bin .geq (.t i33) (.c (.int .i64 (.ofNat 50)))⟩])
  (.cond (.t i34) (.seq (.region [⟨(some i35), none, .move (.t i0)⟩, ⟨(some i36), none, .move (.t i10)⟩, ⟨(some i37), none, .call i300 [(.t i35), (.t i36), (.t i9)]⟩, ⟨(some i10), none, .move (.t i37)⟩])
  (.seq (.region [⟨(some i38), none, .move (.t i0)⟩, ⟨(some i39), none, .move (.t i11)⟩, ⟨(some i40), none, .call i300 [(.t i38), (.t i39), (.t i9)]⟩, ⟨(some i11), none, .move (.t i40)⟩])
  (.region [⟨(some i41), none, .move (.t i0)⟩, ⟨(some i42), none, .move (.t i12)⟩, ⟨(some i43), none, .call i300 [(.t i41), (.t i42), (.t i9)]⟩, ⟨(some i12), none, .move (.t i43)⟩])))
  .skip))
  (.region [⟨(some i44), none, .move (.t i0)⟩, ⟨(some i45), none, .move (.t i10)⟩, ⟨(some i46), none, .move (.t i11)⟩, ⟨(some i47), none, .move (.t i12)⟩, ⟨(some i48), none, .call i301 [(.t i44), (.t i45), (.t i46), (.t i47), (.t i9)]⟩, ⟨(some i11), none, .move (.t i48)⟩]))
  .skip))
  (.seq (.region [⟨(some i49), none, .load none (.t i9)⟩])
  (.block 0 (.seq (.region [⟨(some i52), none, .bin (.eq .int) (.t i49) (.c (.int .i64 (.ofNat 0)))⟩, ⟨(some i51), none, .move (.t i52)⟩])
  (.cond (.t i51) (.seq (.region [⟨(some i53), none, .move (.t i11)⟩, ⟨(some i6), none, .move (.t i53)⟩, ⟨(some i7), none, .move (.c (.int .i64 (.ofNat 1)))⟩])
  .ret)
  (.seq (.region [⟨(some i55), none, .bin (.eq .int) (.t i49) (.c (.int .i64 (.ofNat 12)))⟩, ⟨(some i54), none, .move (.t i55)⟩])
  (.cond (.t i54) (.seq (.region [⟨(some i56), none, .move (.t i11)⟩, ⟨(some i6), none, .move (.t i56)⟩, ⟨(some i7), none, .move (.c (.int .i64 (.ofNat 2)))⟩])
  .ret)
  (.seq (.region [⟨(some i50), none, .move (.t i11)⟩, ⟨(some i6), none, .move (.t i50)⟩, ⟨(some i7), none, .move (.c (.int .i64 (.ofNat 0)))⟩])
  .ret))))))))))))))⟩
theorem tr287 : trFunc (tyIn Tryz.prog tyn) ibn Tryz.f287 = some af287 := by kernel_rfl
theorem nm287 : (Tryz.f287.name == "runtime.NumGoroutine") = false := by kernel_rfl
theorem good287 : GoodAt Tryz.prog tyn ibn i287 af287 := goodAt Tryz.func287 tr287 nm287 rfl
def af288 : AFunc := ⟨[], (.seq (.region [⟨(some i8), none, .move (.t i1)⟩, ⟨(some i6), none, .move (.t i8)⟩])
  (.seq (.region [⟨(some i9), none, .move (.t i2)⟩, ⟨(some i10), none, .bin .sub (.t i9) (.c (.int .i64 (.ofNat 1)))⟩, ⟨(some i7), none, .move (.t i10)⟩])
  (.block 0 (.loop (.seq (.seq (.region [⟨(some i11), none, .move (.t i6)⟩, ⟨(some i12), none, .move (.t i7)⟩, ⟨(some i13), none, .bin .lss (.t i11) (.t i12)⟩])
  (.cond (.t i13) .skip
  (.exit 0)))
  (.block 1 (.seq (.drawn [⟨0, .v, ⟨(some i14), none, .move (.t i0)⟩⟩, ⟨1, .v, ⟨(some i15), none, .move (.t i6)⟩⟩, ⟨4, .v, ⟨(some i18), none, .move (.t i0)⟩⟩, ⟨5, .v, ⟨(some i19), none, .move (.t i7)⟩⟩, ⟨6, .v, ⟨(some i20), none, .indexSl 1 (.t i18) (.t i19)⟩⟩, ⟨7, (.r 0), ⟨(some i21), none, .load none (.t i20)⟩⟩, ⟨8, .v, ⟨(some i22), none, .move (.t i0)⟩⟩, ⟨9, .v, ⟨(some i23), none, .move (.t i6)⟩⟩, ⟨10, .v, ⟨(some i24), none, .indexSl 1 (.t i22) (.t i23)⟩⟩, ⟨11, (.r 0), ⟨(some i25), none, .load none (.t i24)⟩⟩, ⟨12, .v, ⟨(some i26), none, .indexSl 1 (.t i14) (.t i15)⟩⟩, ⟨13, .e, ⟨none, none, .store none (.t i26) (.t i21)⟩⟩, ⟨2, .v, ⟨(some i16), none, .move (.t i0)⟩⟩, ⟨3, .v, ⟨(some i17), none, .move (.t i7)⟩⟩, ⟨14, .v, ⟨(some i27), none, .indexSl 1 (.t i16) (.t i17)⟩⟩, ⟨15, .e, ⟨none, none, .store none (.t i27) (.t i25)⟩⟩])
  (.seq (.region [⟨(some i28), none, .move (.t i6)⟩, ⟨(some i29), none, .bin .add (.t i28) (.c (.int .i64 (.ofNat 1)))⟩, ⟨(some i6), none, .move (.t i29)⟩])
  (.region [⟨(some i30), none, .move (.t i7)⟩, ⟨(some i31), none, .bin .sub (.t i30) (.c (.int .i64 (.ofNat 1)))⟩, ⟨(some i7), none, .move (.t i31)⟩])))))))))⟩
theorem tr288 : trFunc (tyIn Tryz.prog tyn) ibn Tryz.f288 = some af288 := by kernel_rfl
theorem nm288 : (Tryz.f288.name == "runtime.NumGoroutine") = false := by kernel_rfl
theorem good288 : GoodAt Tryz.prog tyn ibn i288 af288 := goodAt Tryz.func288 tr288 nm288 rfl
def af289 : AFunc := ⟨[.tmp i6], (.seq (.region [⟨(some i6), none, .move (.c (.bool false))⟩])
  (.seq (.region [⟨(some i11), none, .move (.t i1)⟩, ⟨(some i12), none, .bin .add (.t i11) (.c (.int .i64 (.ofNat 1)))⟩, ⟨(some i7), none, .move (.t i12)⟩])
  (.seq (.seq (.region [⟨(some i8), none, .move (.c (.int .i64 (.ofNat 0)))⟩])
  (.block 0 (.loop (.seq (.seq (.region [⟨(some i13), none, .move (.t i8)⟩, ⟨(some i14), none, .bin .lss (.t i13) (.c (.int .i64 (.ofNat 5)))⟩])
  (.cond (.t i14) .skip
  (.exit 0)))
  (.seq (.block 1 (.seq (.block 2 (.loop (.seq (.seq (.drawn [⟨0, .v, ⟨(some i17), none, .move (.t i7)⟩⟩, ⟨1, .v, ⟨(some i18), none, .move (.t i2)⟩⟩, ⟨2, .v, ⟨(some i19), none, .bin .lss (.t i17) (.t i18)⟩⟩, ⟨3, .v, ⟨(some i20), none, .move (.t i19)⟩⟩, ⟨4, .v, ⟨(some i21), (some (i20, true)), .move (.t i0)⟩⟩, ⟨5, .v, ⟨(some i22), (some (i20, true)), .move (.t i7)⟩⟩, ⟨6, .v, ⟨(some i23), (some (i20, true)), .indexSl 1 (.t i21) (.t i22)⟩⟩, ⟨7, (.r 0), ⟨(some i24), (some (i20, true)), .load none (.t i23)⟩⟩, ⟨8, .v, ⟨(some i25), (some (i20, true)), .move (.t i0)⟩⟩, ⟨9, .v, ⟨(some i26), (some (i20, true)), .move (.t i7)⟩⟩, ⟨10, .v, ⟨(some i27), (some (i20, true)), .bin .sub (.t i26) (.c (.int .i64 (.ofNat 1)))⟩⟩, ⟨11, .v, ⟨(some i28), (some (i20, true)), .indexSl 1 (.t i25) (.t i27)⟩⟩, ⟨12, (.r 0), ⟨(some i29), (some (i20, true)), .load none (.t i28)⟩⟩, ⟨13, .e, ⟨(some i30), (some (i20, true)), .call i290 [(.t i24), (.t i29)]⟩⟩, ⟨14, .v, ⟨(some i31), (some (i20, true)), .not (.t i30)⟩⟩, ⟨15, .v, ⟨(some i32), none, .pick (.t i20) (.t i31) (.c (.bool false))⟩⟩])
  (.cond (.t i32) .skip
  (.exit 2)))
  (.block 3 (.region [⟨(some i33), none, .move (.t i7)⟩, ⟨(some i34), none, .bin .add (.t i33) (.c (.int .i64 (.ofNat 1)))⟩, ⟨(some i7), none, .move (.t i34)⟩])))))
  (.seq (.seq (.region [⟨(some i35), none, .move (.t i7)⟩, ⟨(some i36), none, .move (.t i2)⟩, ⟨(some i37), none, .bin (.eq .int) (.t i35) (.t i36)⟩])
  (.cond (.t i37) (.seq (.region [⟨(some i6), none, .move (.c (.bool true))⟩])
  .ret)
  .skip))
  (.seq (.seq (.region [⟨(some i38), none, .move (.t i2)⟩, ⟨(some i39), none, .move (.t i1)⟩, ⟨(some i40), none, .bin .sub (.t i38) (.t i39)⟩, ⟨(some i41), none, .bin .lss (.t i40) (.c (.int .i64 (.ofNat 50)))⟩])
  (.cond (.t i41) (.seq (.region [⟨(some i6), none, .move (.c (.bool false))⟩])
  .ret)
  .skip))
  (.seq (.drawn [⟨0, .v, ⟨(some i42), none, .move (.t i0)⟩⟩, ⟨1, .v, ⟨(some i43), none, .move (.t i7)⟩⟩, ⟨5, .v, ⟨(some i47), none, .move (.t i0)⟩⟩, ⟨6, .v, ⟨(some i48), none, .move (.t i7)⟩⟩, ⟨7, .v, ⟨(some i49), none, .bin .sub (.t i48) (.c (.int .i64 (.ofNat 1)))⟩⟩, ⟨8, .v, ⟨(some i50), none, .indexSl 1 (.t i47) (.t i49)⟩⟩, ⟨9, (.r 0), ⟨(some i51), none, .load none (.t i50)⟩⟩, ⟨10, .v, ⟨(some i52), none, .move (.t i0)⟩⟩, ⟨11, .v, ⟨(some i53), none, .move (.t i7)⟩⟩, ⟨12, .v, ⟨(some i54), none, .indexSl 1 (.t i52) (.t i53)⟩⟩, ⟨13, (.r 0), ⟨(some i55), none, .load none (.t i54)⟩⟩, ⟨14, .v, ⟨(some i56), none, .indexSl 1 (.t i42) (.t i43)⟩⟩, ⟨15, .e, ⟨none, none, .store none (.t i56) (.t i51)⟩⟩, ⟨2, .v, ⟨(some i44), none, .move (.t i0)⟩⟩, ⟨3, .v, ⟨(some i45), none, .move (.t i7)⟩⟩, ⟨4, .v, ⟨(some i46), none, .bin .sub (.t i45) (.c (.int .i64 (.ofNat 1)))⟩⟩, ⟨16, .v, ⟨(some i57), none, .indexSl 1 (.t i44) (.t i46)⟩⟩, ⟨17, .e, ⟨none, none, .store none (.t i57) (.t i55)⟩⟩])
  (.seq (.seq (.region [⟨(some i58), none, .move (.t i7)⟩, ⟨(some i59), none, .move (.t i1)⟩, ⟨(some i60), none, .bin .sub (.t i58) (.t i59)⟩, ⟨(some i61), none, .bin .geq (.t i60) (.c (.int .i64 (.ofNat 2)))⟩])
  (.cond (.t i61) (.seq (.region [⟨(some i62), none, .move (.t i7)⟩, ⟨(some i63), none, .bin .sub (.t i62) (.c (.int .i64 (.ofNat 1)))⟩, ⟨(some i9), none, .move (.t i63)⟩])
  (.block 4 (.loop (.seq (.seq (.region [⟨(some i64), none, .move (.t i9)⟩, ⟨(some i65), none, .bin .geq (.t i64) (.c (.int .i64 (.ofNat 1)))⟩])
  (.cond (.t i65) .skip
  (.exit 4)))
  (.seq (.block 5 (.seq (.seq (.drawn [⟨0, .v, ⟨(some i68), none, .move (.t i0)⟩⟩, ⟨1, .v, ⟨(some i69), none, .move (.t i9)⟩⟩, ⟨2, .v, ⟨(some i70), none, .indexSl 1 (.t i68) (.t i69)⟩⟩, ⟨3, (.r 0), ⟨(some i71), none, .load none (.t i70)⟩⟩, ⟨4, .v, ⟨(some i72), none, .move (.t i0)⟩⟩, ⟨5, .v, ⟨(some i73), none, .move (.t i9)⟩⟩, ⟨6, .v, ⟨(some i74), none, .bin .sub (.t i73) (.c (.int .i64 (.ofNat 1)))⟩⟩, ⟨7, .v, ⟨(some i75), none, .indexSl 1 (.t i72) (.t i74)⟩⟩, ⟨8, (.r 0), ⟨(some i76), none, .load none (.t i75)⟩⟩, ⟨9, .e, ⟨(some i77), none, .call i290 [(.t i71), (.t i76)]⟩⟩, ⟨10, .v, ⟨(some i78), none, .not (.t i77)⟩⟩])
  (.cond (.t i78) (.exit 4)
  .skip))
  (.drawn [⟨0, .v, ⟨(some i79), none, .move (.t i0)⟩⟩, ⟨1, .v, ⟨(some i80), none, .move (.t i9)⟩⟩, ⟨5, .v, ⟨(some i84), none, .move (.t i0)⟩⟩, ⟨6, .v, ⟨(some i85), none, .move (.t i9)⟩⟩, ⟨7, .v, ⟨(some i86), none, .bin .sub (.t i85) (.c (.int .i64 (.ofNat 1)))⟩⟩, ⟨8, .v, ⟨(some i87), none, .indexSl 1 (.t i84) (.t i86)⟩⟩, ⟨9, (.r 0), ⟨(some i88), none, .load none (.t i87)⟩⟩, ⟨10, .v, ⟨(some i89), none, .move (.t i0)⟩⟩, ⟨11, .v, ⟨(some i90), none, .move (.t i9)⟩⟩, ⟨12, .v, ⟨(some i91), none, .indexSl 1 (.t i89) (.t i90)⟩⟩, ⟨13, (.r 0), ⟨(some i92), none, .load none (.t i91)⟩⟩, ⟨14, .v, ⟨(some i93), none, .indexSl 1 (.t i79) (.t i80)⟩⟩, ⟨15, .e, ⟨none, none, .store none (.t i93) (.t i88)⟩⟩, ⟨2, .v, ⟨(some i81), none, .move (.t i0)⟩⟩, ⟨3, .v, ⟨(some i82), none, .move (.t i9)⟩⟩, ⟨4, .v, ⟨(some i83), none, .bin .sub (.t i82) (.c (.int .i64 (.ofNat 1)))⟩⟩, ⟨16, .v, ⟨(some i94), none, .indexSl 1 (.t i81) (.t i83)⟩⟩, ⟨17, .e, ⟨none, none, .store none (.t i94) (.t i92)⟩⟩])))
  (.region [⟨(some i66), none, .move (.t i9)⟩, ⟨(some i67), none, .bin .sub (.t i66) (.c (.int .i64 (.ofNat 1)))⟩, ⟨(some i9), none, .move (.t i67)⟩]))))))
  .skip))
  (.seq (.region [⟨(some i95), none, .move (.t i2)⟩, ⟨(some i96), none, .move (.t i7)⟩, ⟨(some i97), none, .bin .sub (.t i95) (.t i96)⟩, ⟨(some i98), none, .bin .geq (.t i97) (.c (.int .i64 (.ofNat 2)))⟩])
  (.cond (.t i98) (.seq (.region [⟨(some i99), none, .move (.t i7)⟩, ⟨(some i100), none, .bin .add (.t i99) (.c (.int .i64 (.ofNat 1)))⟩, ⟨(some i10), none, .move (.t i100)⟩])
  (.block 6 (.loop (.seq (.seq (.region [⟨(some i101), none, .move (.t i10)⟩, ⟨(some i102), none, .move (.t i2)⟩, ⟨(some i103), none, .bin .lss (.t i101) (.t i102)⟩])
  (.cond (.t i103) .skip
  (.exit 6)))
  (.seq (.block 7 (.seq (.seq (.drawn [⟨0, .v, ⟨(some i106), none, .move (.t i0)⟩⟩, ⟨1, .v, ⟨(some i107), none, .move (.t i10)⟩⟩, ⟨2, .v, ⟨(some i108), none, .indexSl 1 (.t i106) (.t i107)⟩⟩, ⟨3, (.r 0), ⟨(some i109), none, .load none (.t i108)⟩⟩, ⟨4, .v, ⟨(some i110), none, .move (.t i0)⟩⟩, ⟨5, .v, ⟨(some i111), none, .move (.t i10)⟩⟩, ⟨6, .v, ⟨(some i112), none, .bin .sub (.t i111) (.c (.int .i64 (.ofNat 1)))⟩⟩, ⟨7, .v, ⟨(some i113), none, .indexSl 1 (.t i110) (.t i112)⟩⟩, ⟨8, (.r 0), ⟨(some i114), none, .load none (.t i113)⟩⟩, ⟨9, .e, ⟨(some i115), none, .call i290 [(.t i109), (.t i114)]⟩⟩, ⟨10, .v, ⟨(some i116), none, .not (.t i115)⟩⟩])
  (.cond (.t i116) (.exit 6)
  .skip))
  (.drawn [⟨0, .v, ⟨(some i117), none, .move (.t i0)⟩⟩, ⟨1, .v, ⟨(some i118), none, .move (.t i10)⟩⟩, ⟨5, .v, ⟨(some i122), none, .move (.t i0)⟩⟩, ⟨6, .v, ⟨(some i123), none, .move (.t i10)⟩⟩, ⟨7, .v, ⟨(some i124), none, .bin .sub (.t i123) (.c (.int .i64 (.ofNat 1)))⟩⟩, ⟨8, .v, ⟨(some i125), none, .indexSl 1 (.t i122) (.t i124)⟩⟩, ⟨9, (.r 0), ⟨(some i126), none, .load none (.t i125)⟩⟩, ⟨10, .v, ⟨(some i127), none, .move (.t i0)⟩⟩, ⟨11, .v, ⟨(some i128), none, .move (.t i10)⟩⟩, ⟨12, .v, ⟨(some i129), none, .indexSl 1 (.t i127) (.t i128)⟩⟩, ⟨13, (.r 0), ⟨(some i130), none, .load none (.t i129)⟩⟩, ⟨14, .v, ⟨(some i131), none, .indexSl 1 (.t i117) (.t i118)⟩⟩, ⟨15, .e, ⟨none, none, .store none (.t i131) (.t i126)⟩⟩, ⟨2, .v, ⟨(some i119), none, .move (.t i0)⟩⟩, ⟨3, .v, ⟨(some i120), none, .move (.t i10)⟩⟩, ⟨4, .v, ⟨(some i121), none, .bin .sub (.t i120) (.c (.int .i64 (.ofNat 1)))⟩⟩, ⟨16, .v, ⟨(some i132), none, .indexSl 1 (.t i119) (.t i121)⟩⟩, ⟨17, .e, ⟨none, none, .store none (.t i132) (.t i130)⟩⟩])))
  (.region [⟨(some i104), none, .move (.t i10)⟩, ⟨(some i105), none, .bin .add (.t i104) (.c (.int .i64 (.ofNat 1)))⟩, ⟨(some i10), none, .move (.t i105)⟩]))))))
  .skip))))))))
  (.region [⟨(some i15), none, .move (.t i8)⟩, ⟨(some i16), none, .bin .add (.t i15) (.c (.int .i64 (.ofNat 1)))⟩, ⟨(some i8), none, .move (.t i16)⟩]))))))
  (.seq (.region [⟨(some i6), none, .move (.c (.bool false))⟩])
  .ret))))⟩
theorem tr289 : trFunc (tyIn Tryz.prog tyn) ibn Tryz.f289 = some af289 := by kernel_rfl
theorem nm289 : (Tryz.f289.name == "runtime.NumGoroutine") = false := by kernel_rfl
theorem good289 : GoodAt Tryz.prog tyn ibn i289 af289 := goodAt Tryz.func289 tr289 nm289 rfl
def af290 : AFunc := ⟨[.tmp i4], (.seq (.region [⟨(some i4), none, .move (.c (.bool false))⟩])
  (.seq (.region [⟨(some i5), none, .move (.t i0)⟩, ⟨(some i6), none, .call i302 [(.t i5)]⟩, ⟨(some i7), none, .move (.t i6)⟩, ⟨(some i8), (some (i7, true)), .move (.t i1)⟩, ⟨(some i9), (some (i7, true)), .call i302 [(.t i8)]⟩, ⟨(some i10), (some (i7, true)), .not (.t i9)⟩, ⟨(some i11), none, .pick (.t i7) (.t i10) (.c (.bool false))⟩, ⟨(some i12), none, .move (.t i11)⟩, ⟨(some i13), (some (i12, false)), .move (.t i0)⟩, ⟨(some i14), (some (i12, false)), .move (.t i1)⟩, ⟨(some i15), (some (i12, false)), .bin .lss (.t i13) (.t i14)⟩, ⟨(some i16), none, .pick (.t i12) (.c (.bool true)) (.t i15)⟩, ⟨(some i4), none, .move (.t i16)⟩])
  .ret))⟩
theorem tr290 : trFunc (tyIn Tryz.prog tyn) ibn Tryz.f290 = some af290 := by kernel_rfl
theorem nm290 : (Tryz.f290.name == "runtime.NumGoroutine") = false := by kernel_rfl
theorem good290 : GoodAt Tryz.prog tyn ibn i290 af290 := goodAt Tryz.func290 tr290 nm290 rfl
def af291 : AFunc := ⟨[.tmp i8], (.seq (.region [⟨(some i8), none, .move (.c (.int .i64 (.ofNat 0)))⟩])
  (.seq (.drawn [⟨0, .v, ⟨(some i11), none, .move (.t i0)⟩⟩, ⟨1, .v, ⟨(some i12), none, .move (.t i1)⟩⟩, ⟨4, .v, ⟨(some i15), none, .move (.t i0)⟩⟩, ⟨5, .v, ⟨(some i16), none, .move (.t i3)⟩⟩, ⟨6, .v, ⟨(some i17), none, .indexSl 1 (.t i15) (.t i16)⟩⟩, ⟨7, (.r 0), ⟨(some i18), none, .load none (.t i17)⟩⟩, ⟨8, .v, ⟨(some i19), none, .move (.t i0)⟩⟩, ⟨9, .v, ⟨(some i20), none, .move (.t i1)⟩⟩, ⟨10, .v, ⟨(some i21), none, .indexSl 1 (.t i19) (.t i20)⟩⟩, ⟨11, (.r 0), ⟨(some i22), none, .load none (.t i21)⟩⟩, ⟨12, .v, ⟨(some i23), none, .indexSl 1 (.t i11) (.t i12)⟩⟩, ⟨13, .e, ⟨none, none, .store none (.t i23) (.t i18)⟩⟩, ⟨2, .v, ⟨(some i13), none, .move (.t i0)⟩⟩, ⟨3, .v, ⟨(some i14), none, .move (.t i3)⟩⟩, ⟨14, .v, ⟨(some i24), none, .indexSl 1 (.t i13) (.t i14)⟩⟩, ⟨15, .e, ⟨none, none, .store none (.t i24) (.t i22)⟩⟩])
  (.seq (.region [⟨(some i25), none, .move (.t i1)⟩, ⟨(some i26), none, .bin .add (.t i25) (.c (.int .i64 (.ofNat 1)))⟩, ⟨(some i27), none, .move (.t i2)⟩, ⟨(some i28), none, .bin .sub (.t i27) (.c (.int .i64 (.ofNat 1)))⟩, ⟨(some i9), none, .move (.t i26)⟩, ⟨(some i10), none, .move (.t i28)⟩])
  (.seq (.block 0 (.loop (.block 1 (.seq (.block 2 (.loop (.seq (.seq (.drawn [⟨0, .v, ⟨(some i29), none, .move (.t i9)⟩⟩, ⟨1, .v, ⟨(some i30), none, .move (.t i10)⟩⟩, ⟨2, .v, ⟨(some i31), none, .bin .leq (.t i29) (.t i30)⟩⟩, ⟨3, .v, ⟨(some i32), none, .move (.t i31)⟩⟩, ⟨4, .v, ⟨(some i33), (some (i32, true)), .move (.t i0)⟩⟩, ⟨5, .v, ⟨(some i34), (some (i32, true)), .move (.t i1)⟩⟩, ⟨6, .v, ⟨(some i35), (some (i32, true)), .indexSl 1 (.t i33) (.t i34)⟩⟩, ⟨7, (.r 0), ⟨(some i36), (some (i32, true)), .load none (.t i35)⟩⟩, ⟨8, .v, ⟨(some i37), (some (i32, true)), .move (.t i0)⟩⟩, ⟨9, .v, ⟨(some i38), (some (i32, true)), .move (.t i9)⟩⟩, ⟨10, .v, ⟨(some i39), (some (i32, true)), .indexSl 1 (.t i37) (.t i38)⟩⟩, ⟨11, (.r 0), ⟨(some i40), (some (i32, true)), .load none (.t i39)⟩⟩, ⟨12, .e, ⟨(some i41), (some (i32, true)), .call i290 [(.t i36), (.t i40)]⟩⟩, ⟨13, .v, ⟨(some i42), (some (i32, true)), .not (.t i41)⟩⟩, ⟨14, .v, ⟨(some i43), none, .pick (.t i32) (.t i42) (.c (.bool false))⟩⟩])
  (.cond (.t i43) .skip
  (.exit 2)))
  (.block 3 (.region [⟨(some i44), none, .move (.t i9)⟩, ⟨(some i45), none, .bin .add (.t i44) (.c (.int .i64 (.ofNat 1)))⟩, ⟨(some i9), none, .move (.t i45)⟩])))))
  (.seq (.block 4 (.loop (.seq (.seq (.drawn [⟨0, .v, ⟨(some i46), none, .move (.t i9)⟩⟩, ⟨1, .v, ⟨(some i47), none, .move (.t i10)⟩⟩, ⟨2, .v, ⟨(some i48), none, .bin .leq (.t i46) (.t i47)⟩⟩, ⟨3, .v, ⟨(some i49), none, .move (.t i48)⟩⟩, ⟨4, .v, ⟨(some i50), (some (i49, true)), .move (.t i0)⟩⟩, ⟨5, .v, ⟨(some i51), (some (i49, true)), .move (.t i1)⟩⟩, ⟨6, .v, ⟨(some i52), (some (i49, true)), .indexSl 1 (.t i50) (.t i51)⟩⟩, ⟨7, (.r 0), ⟨(some i53), (some (i49, true)), .load none (.t i52)⟩⟩, ⟨8, .v, ⟨(some i54), (some (i49, true)), .move (.t i0)⟩⟩, ⟨9, .v, ⟨(some i55), (some (i49, true)), .move (.t i10)⟩⟩, ⟨10, .v, ⟨(some i56), (some (i49, true)), .indexSl 1 (.t i54) (.t i55)⟩⟩, ⟨11, (.r 0), ⟨(some i57), (some (i49, true)), .load none (.t i56)⟩⟩, ⟨12, .e, ⟨(some i58), (some (i49, true)), .call i290 [(.t i53), (.t i57)]⟩⟩, ⟨13, .v, ⟨(some i59), none, .pick (.t i49) (.t i58) (.c (.bool false))⟩⟩])
  (.cond (.t i59) .skip
  (.exit 4)))
  (.block 5 (.region [⟨(some i60), none, .move (.t i10)⟩, ⟨(some i61), none, .bin .sub (.t i60) (.c (.int .i64 (.ofNat 1)))⟩, ⟨(some i10), none, .move (.t i61)⟩])))))
  (.seq (.seq (.region [⟨(some i62), none, .move (.t i9)⟩, ⟨(some i63), none, .move (.t i10)⟩, ⟨(some i64), none, .bin .gtr (.t i62) (.t i63)⟩])
  (.cond (.t i64) (.exit 0)
  .skip))
  (.seq (.drawn [⟨0, .v, ⟨(some i65), none, .move (.t i0)⟩⟩, ⟨1, .v, ⟨(some i66), none, .move (.t i9)⟩⟩, ⟨4, .v, ⟨(some i69), none, .move (.t i0)⟩⟩, ⟨5, .v, ⟨(some i70), none, .move (.t i10)⟩⟩, ⟨6, .v, ⟨(some i71), none, .indexSl 1 (.t i69) (.t i70)⟩⟩, ⟨7, (.r 0), ⟨(some i72), none, .load none (.t i71)⟩⟩, ⟨8, .v, ⟨(some i73), none, .move (.t i0)⟩⟩, ⟨9, .v, ⟨(some i74), none, .move (.t i9)⟩⟩, ⟨10, .v, ⟨(some i75), none, .indexSl 1 (.t i73) (.t i74)⟩⟩, ⟨11, (.r 0), ⟨(some i76), none, .load none (.t i75)⟩⟩, ⟨12, .v, ⟨(some i77), none, .indexSl 1 (.t i65) (.t i66)⟩⟩, ⟨13, .e, ⟨none, none, .store none (.t i77) (.t i72)⟩⟩, ⟨2, .v, ⟨(some i67), none, .move (.t i0)⟩⟩, ⟨3, .v, ⟨(some i68), none, .move (.t i10)⟩⟩, ⟨14, .v, ⟨(some i78), none, .indexSl 1 (.t i67) (.t i68)⟩⟩, ⟨15, .e, ⟨none, none, .store none (.t i78) (.t i76)⟩⟩])
  (.seq (.region [⟨(some i79), none, .move (.t i9)⟩, ⟨(some i80), none, .bin .add (.t i79) (.c (.int .i64 (.ofNat 1)))⟩, ⟨(some i9), none, .move (.t i80)⟩])
  (.region [⟨(some i81), none, .move (.t i10)⟩, ⟨(some i82), none, .bin .sub (.t i81) (.c (.int .i64 (.ofNat 1)))⟩, ⟨(some i10), none, .move (.t i82)⟩])))))))))
  (.seq (.region [⟨(some i83), none, .move (.t i9)⟩, ⟨(some i8), none, .move (.t i83)⟩])
  .ret)))))⟩
theorem tr291 : trFunc (tyIn Tryz.prog tyn) ibn Tryz.f291 = some af291 := by kernel_rfl
theorem nm291 : (Tryz.f291.name == "runtime.NumGoroutine") = false := by kernel_rfl
theorem good291 : GoodAt Tryz.prog tyn ibn i291 af291 := goodAt Tryz.func291 tr291 nm291 rfl
def af292 : AFunc := ⟨[.tmp i8, .tmp i9], (.seq (.region [⟨(some i8), none, .move (.c (.int .i64 (.ofNat 0)))⟩, ⟨(some i9), none, .move (.c (.bool false))⟩])
  (.seq (.drawn [⟨0, .v, ⟨(some i12), none, .move (.t i0)⟩⟩, ⟨1, .v, ⟨(some i13), none, .move (.t i1)⟩⟩, ⟨4, .v, ⟨(some i16), none, .move (.t i0)⟩⟩, ⟨5, .v, ⟨(some i17), none, .move (.t i3)⟩⟩, ⟨6, .v, ⟨(some i18), none, .indexSl 1 (.t i16) (.t i17)⟩⟩, ⟨7, (.r 0), ⟨(some i19), none, .load none (.t i18)⟩⟩, ⟨8, .v, ⟨(some i20), none, .move (.t i0)⟩⟩, ⟨9, .v, ⟨(some i21), none, .move (.t i1)⟩⟩, ⟨10, .v, ⟨(some i22), none, .indexSl 1 (.t i20) (.t i21)⟩⟩, ⟨11, (.r 0), ⟨(some i23), none, .load none (.t i22)⟩⟩, ⟨12, .v, ⟨(some i24), none, .indexSl 1 (.t i12) (.t i13)⟩⟩, ⟨13, .e, ⟨none, none, .store none (.t i24) (.t i19)⟩⟩, ⟨2, .v, ⟨(some i14), none, .move (.t i0)⟩⟩, ⟨3, .v, ⟨(some i15), none, .move (.t i3)⟩⟩, ⟨14, .v, ⟨(some i25), none, .indexSl 1 (.t i14) (.t i15)⟩⟩, ⟨15, .e, ⟨none, none, .store none (.t i25) (.t i23)⟩⟩])
  (.seq (.region [⟨(some i26), none, .move (.t i1)⟩, ⟨(some i27), none, .bin .add (.t i26) (.c (.int .i64 (.ofNat 1)))⟩, ⟨(some i28), none, .move (.t i2)⟩, ⟨(some i29), none, .bin .sub (.t i28) (.c (.int .i64 (.ofNat 1)))⟩, ⟨(some i10), none, .move (.t i27)⟩, ⟨(some i11), none, .move (.t i29)⟩])
  (.seq (.block 0 (.loop (.seq (.seq (.drawn [⟨0, .v, ⟨(some i30), none, .move (.t i10)⟩⟩, ⟨1, .v, ⟨(some i31), none, .move (.t i11)⟩⟩, ⟨2, .v, ⟨(some i32), none, .bin .leq (.t i30) (.t i31)⟩⟩, ⟨3, .v, ⟨(some i33), none, .move (.t i32)⟩⟩, ⟨4, .v, ⟨(some i34), (some (i33, true)), .move (.t i0)⟩⟩, ⟨5, .v, ⟨(some i35), (some (i33, true)), .move (.t i10)⟩⟩, ⟨6, .v, ⟨(some i36), (some (i33, true)), .indexSl 1 (.t i34) (.t i35)⟩⟩, ⟨7, (.r 0), ⟨(some i37), (some (i33, true)), .load none (.t i36)⟩⟩, ⟨8, .v, ⟨(some i38), (some (i33, true)), .move (.t i0)⟩⟩, ⟨9, .v, ⟨(some i39), (some (i33, true)), .move (.t i1)⟩⟩, ⟨10, .v, ⟨(some i40), (some (i33, true)), .indexSl 1 (.t i38) (.t i39)⟩⟩, ⟨11, (.r 0), ⟨(some i41), (some (i33, true)), .load none (.t i40)⟩⟩, ⟨12, .e, ⟨(some i42), (some (i33, true)), .call i290 [(.t i37), (.t i41)]⟩⟩, ⟨13, .v, ⟨(some i43), none, .pick (.t i33) (.t i42) (.c (.bool false))⟩⟩])
  (.cond (.t i43) .skip
  (.exit 0)))
  (.block 1 (.region [⟨(some i44), none, .move (.t i10)⟩, ⟨(some i45), none, .bin .add (.t i44) (.c (.int .i64 (.ofNat 1)))⟩, ⟨(some i10), none, .move (.t i45)⟩])))))
  (.seq (.block 2 (.loop (.seq (.seq (.drawn [⟨0, .v, ⟨(some i46), none, .move (.t i10)⟩⟩, ⟨1, .v, ⟨(some i47), none, .move (.t i11)⟩⟩, ⟨2, .v, ⟨(some i48), none, .bin .leq (.t i46) (.t i47)⟩⟩, ⟨3, .v, ⟨(some i49), none, .move (.t i48)⟩⟩, ⟨4, .v, ⟨(some i50), (some (i49, true)), .move (.t i0)⟩⟩, ⟨5, .v, ⟨(some i51), (some (i49, true)), .move (.t i11)⟩⟩, ⟨6, .v, ⟨(some i52), (some (i49, true)), .indexSl 1 (.t i50) (.t i51)⟩⟩, ⟨7, (.r 0), ⟨(some i53), (some (i49, true)), .load none (.t i52)⟩⟩, ⟨8, .v, ⟨(some i54), (some (i49, true)), .move (.t i0)⟩⟩, ⟨9, .v, ⟨(some i55), (some (i49, true)), .move (.t i1)⟩⟩, ⟨10, .v, ⟨(some i56), (some (i49, true)), .indexSl 1 (.t i54) (.t i55)⟩⟩, ⟨11, (.r 0), ⟨(some i57), (some (i49, true)), .load none (.t i56)⟩⟩, ⟨12, .e, ⟨(some i58), (some (i49, true)), .call i290 [(.t i53), (.t i57)]⟩⟩, ⟨13, .v, ⟨(some i59), (some (i49, true)), .not (.t i58)⟩⟩, ⟨14, .v, ⟨(some i60), none, .pick (.t i49) (.t i59) (.c (.bool false))⟩⟩])
  (.cond (.t i60) .skip
  (.exit 2)))
  (.block 3 (.region [⟨(some i61), none, .move (.t i11)⟩, ⟨(some i62), none, .bin .sub (.t i61) (.c (.int .i64 (.ofNat 1)))⟩, ⟨(some i11), none, .move (.t i62)⟩])))))
  (.seq (.seq (.region [⟨(some i63), none, .move (.t i10)⟩, ⟨(some i64), none, .move (.t i11)⟩, ⟨(some i65), none, .bin .gtr (.t i63) (.t i64)⟩])
  (.cond (.t i65) (.seq (.drawn [⟨0, .v, ⟨(some i66), none, .move (.t i0)⟩⟩, ⟨1, .v, ⟨(some i67), none, .move (.t i11)⟩⟩, ⟨4, .v, ⟨(some i70), none, .move (.t i0)⟩⟩, ⟨5, .v, ⟨(some i71), none, .move (.t i1)⟩⟩, ⟨6, .v, ⟨(some i72), none, .indexSl 1 (.t i70) (.t i71)⟩⟩, ⟨7, (.r 0), ⟨(some i73), none, .load none (.t i72)⟩⟩, ⟨8, .v, ⟨(some i74), none, .move (.t i0)⟩⟩, ⟨9, .v, ⟨(some i75), none, .move (.t i11)⟩⟩, ⟨10, .v, ⟨(some i76), none, .indexSl 1 (.t i74) (.t i75)⟩⟩, ⟨11, (.r 0), ⟨(some i77), none, .load none (.t i76)⟩⟩, ⟨12, .v, ⟨(some i78), none, .indexSl 1 (.t i66) (.t i67)⟩⟩, ⟨13, .e, ⟨none, none, .store none (.t i78) (.t i73)⟩⟩, ⟨2, .v, ⟨(some i68), none, .move (.t i0)⟩⟩, ⟨3, .v, ⟨(some i69), none, .move (.t i1)⟩⟩, ⟨14, .v, ⟨(some i79), none, .indexSl 1 (.t i68) (.t i69)⟩⟩, ⟨15, .e, ⟨none, none, .store none (.t i79) (.t i77)⟩⟩])
  (.seq (.region [⟨(some i80), none, .move (.t i11)⟩, ⟨(some i8), none, .move (.t i80)⟩, ⟨(some i9), none, .move (.c (.bool true))⟩])
  .ret))
  .skip))
  (.seq (.drawn [⟨0, .v, ⟨(some i81), none, .move (.t i0)⟩⟩, ⟨1, .v, ⟨(some i82), none, .move (.t i10)⟩⟩, ⟨4, .v, ⟨(some i85), none, .move (.t i0)⟩⟩, ⟨5, .v, ⟨(some i86), none, .move (.t i11)⟩⟩, ⟨6, .v, ⟨(some i87), none, .indexSl 1 (.t i85) (.t i86)⟩⟩, ⟨7, (.r 0), ⟨(some i88), none, .load none (.t i87)⟩⟩, ⟨8, .v, ⟨(some i89), none, .move (.t i0)⟩⟩, ⟨9, .v, ⟨(some i90), none, .move (.t i10)⟩⟩, ⟨10, .v, ⟨(some i91), none, .indexSl 1 (.t i89) (.t i90)⟩⟩, ⟨11, (.r 0), ⟨(some i92), none, .load none (.t i91)⟩⟩, ⟨12, .v, ⟨(some i93), none, .indexSl 1 (.t i81) (.t i82)⟩⟩, ⟨13, .e, ⟨none, none, .store none (.t i93) (.t i88)⟩⟩, ⟨2, .v, ⟨(some i83), none, .move (.t i0)⟩⟩, ⟨3, .v, ⟨(some i84), none, .move (.t i11)⟩⟩, ⟨14, .v, ⟨(some i94), none, .indexSl 1 (.t i83) (.t i84)⟩⟩, ⟨15, .e, ⟨none, none, .store none (.t i94) (.t i92)⟩⟩])
  (.seq (.region [⟨(some i95), none, .move (.t i10)⟩, ⟨(some i96), none, .bin .add (.t i95) (.c (.int .i64 (.ofNat 1)))⟩, ⟨(some i10), none, .move (.t i96)⟩])
  (.seq (.region [⟨(some i97), none, .move (.t i11)⟩, ⟨(some i98), none, .bin .sub (.t i97) (.c (.int .i64 (.ofNat 1)))⟩, ⟨(some i11), none, .move (.t i98)⟩])
  (.seq (.block 4 (.loop (.block 5 (.seq (.block 6 (.loop (.seq (.seq (.drawn [⟨0, .v, ⟨(some i99), none, .move (.t i10)⟩⟩, ⟨1, .v, ⟨(some i100), none, .move (.t i11)⟩⟩, ⟨2, .v, ⟨(some i101), none, .bin .leq (.t i99) (.t i100)⟩⟩, ⟨3, .v, ⟨(some i102), none, .move (.t i101)⟩⟩, ⟨4, .v, ⟨(some i103), (some (i102, true)), .move (.t i0)⟩⟩, ⟨5, .v, ⟨(some i104), (some (i102, true)), .move (.t i10)⟩⟩, ⟨6, .v, ⟨(some i105), (some (i102, true)), .indexSl 1 (.t i103) (.t i104)⟩⟩, ⟨7, (.r 0), ⟨(some i106), (some (i102, true)), .load none (.t i105)⟩⟩, ⟨8, .v, ⟨(some i107), (some (i102, true)), .move (.t i0)⟩⟩, ⟨9, .v, ⟨(some i108), (some (i102, true)), .move (.t i1)⟩⟩, ⟨10, .v, ⟨(some i109), (some (i102, true)), .indexSl 1 (.t i107) (.t i108)⟩⟩, ⟨11, (.r 0), ⟨(some i110), (some (i102, true)), .load none (.t i109)⟩⟩, ⟨12, .e, ⟨(some i111), (some (i102, true)), .call i290 [(.t i106), (.t i110)]⟩⟩, ⟨13, .v, ⟨(some i112), none, .pick (.t i102) (.t i111) (.c (.bool false))⟩⟩])
  (.cond (.t i112) .skip
  (.exit 6)))
  (.block 7 (.region [⟨(some i113), none, .move (.t i10)⟩, ⟨(some i114), none, .bin .add (.t i113) (.c (.int .i64 (.ofNat 1)))⟩, ⟨(some i10), none, .move (.t i114)⟩])))))
  (.seq (.block 8 (.loop (.seq (.seq (.drawn [⟨0, .v, ⟨(some i115), none, .move (.t i10)⟩⟩, ⟨1, .v, ⟨(some i116), none, .move (.t i11)⟩⟩, ⟨2, .v, ⟨(some i117), none, .bin .leq (.t i115) (.t i116)⟩⟩, ⟨3, .v, ⟨(some i118), none, .move (.t i117)⟩⟩, ⟨4, .v, ⟨(some i119), (some (i118, true)), .move (.t i0)⟩⟩, ⟨5, .v, ⟨(some i120), (some (i118, true)), .move (.t i11)⟩⟩, ⟨6, .v, ⟨(some i121), (some (i118, true)), .indexSl 1 (.t i119) (.t i120)⟩⟩, ⟨7, (.r 0), ⟨(some i122), (some (i118, true)), .load none (.t i121)⟩⟩, ⟨8, .v, ⟨(some i123), (some (i118, true)), .move (.t i0)⟩⟩, ⟨9, .v, ⟨(some i124), (some (i118, true)), .move (.t i1)⟩⟩, ⟨10, .v, ⟨(some i125), (some (i118, true)), .indexSl 1 (.t i123) (.t i124)⟩⟩, ⟨11, (.r 0), ⟨(some i126), (some (i118, true)), .load none (.t i125)⟩⟩, ⟨12, .e, ⟨(some i127), (some (i118, true)), .call i290 [(.t i122), (.t i126)]⟩⟩, ⟨13, .v, ⟨(some i128), (some (i118, true)), .not (.t i127)⟩⟩, ⟨14, .v, ⟨(some i129), none, .pick (.t i118) (.t i128) (.c (.bool false))⟩⟩])
  (.cond (.t i129) .skip
  (.exit 8)))
  (.block 9 (.region [⟨(some i130), none, .move (.t i11)⟩, ⟨(some i131), none, .bin .sub (.t i130) (.c (.int .i64 (.ofNat 1)))⟩, ⟨(some i11), none, .move (.t i131)⟩])))))
  (.seq (.seq (.region [⟨(some i132), none, .move (.t i10)⟩, ⟨(some i133), none, .move (.t i11)⟩, ⟨(some i134), none, .bin .gtr (.t i132) (.t i133)⟩])
  (.cond (.t i134) (.exit 4)
  .skip))
  (.seq (.drawn [⟨0, .v, ⟨(some i135), none, .move (.t i0)⟩⟩, ⟨1, .v, ⟨(some i136), none, .move (.t i10)⟩⟩, ⟨4, .v, ⟨(some i139), none, .move (.t i0)⟩⟩, ⟨5, .v, ⟨(some i140), none, .move (.t i11)⟩⟩, ⟨6, .v, ⟨(some i141), none, .indexSl 1 (.t i139) (.t i140)⟩⟩, ⟨7, (.r 0), ⟨(some i142), none, .load none (.t i141)⟩⟩, ⟨8, .v, ⟨(some i143), none, .move (.t i0)⟩⟩, ⟨9, .v, ⟨(some i144), none, .move (.t i10)⟩⟩, ⟨10, .v, ⟨(some i145), none, .indexSl 1 (.t i143) (.t i144)⟩⟩, ⟨11, (.r 0), ⟨(some i146), none, .load none (.t i145)⟩⟩, ⟨12, .v, ⟨(some i147), none, .indexSl 1 (.t i135) (.t i136)⟩⟩, ⟨13, .e, ⟨none, none, .store none (.t i147) (.t i142)⟩⟩, ⟨2, .v, ⟨(some i137), none, .move (.t i0)⟩⟩, ⟨3, .v, ⟨(some i138), none, .move (.t i11)⟩⟩, ⟨14, .v, ⟨(some i148), none, .indexSl 1 (.t i137) (.t i138)⟩⟩, ⟨15, .e, ⟨none, none, .store none (.t i148) (.t i146)⟩⟩])
  (.seq (.region [⟨(some i149), none, .move (.t i10)⟩, ⟨(some i150), none, .bin .add (.t i149) (.c (.int .i64 (.ofNat 1)))⟩, ⟨(some i10), none, .move (.t i150)⟩])
  (.region [⟨(some i151), none, .move (.t i11)⟩, ⟨(some i152), none, .bin .sub (.t i151) (.c (.int .i64 (.ofNat 1)))⟩, ⟨(some i11), none, .move (.t i152)⟩])))))))))
  (.seq (.drawn [⟨0, .v, ⟨(some i153), none, .move (.t i0)⟩⟩, ⟨1, .v, ⟨(some i154), none, .move (.t i11)⟩⟩, ⟨4, .v, ⟨(some i157), none, .move (.t i0)⟩⟩, ⟨5, .v, ⟨(some i158), none, .move (.t i1)⟩⟩, ⟨6, .v, ⟨(some i159), none, .indexSl 1 (.t i157) (.t i158)⟩⟩, ⟨7, (.r 0), ⟨(some i160), none, .load none (.t i159)⟩⟩, ⟨8, .v, ⟨(some i161), none, .move (.t i0)⟩⟩, ⟨9, .v, ⟨(some i162), none, .move (.t i11)⟩⟩, ⟨10, .v, ⟨(some i163), none, .indexSl 1 (.t i161) (.t i162)⟩⟩, ⟨11, (.r 0), ⟨(some i164), none, .load none (.t i163)⟩⟩, ⟨12, .v, ⟨(some i165), none, .indexSl 1 (.t i153) (.t i154)⟩⟩, ⟨13, .e, ⟨none, none, .store none (.t i165) (.t i160)⟩⟩, ⟨2, .v, ⟨(some i155), none, .move (.t i0)⟩⟩, ⟨3, .v, ⟨(some i156), none, .move (.t i1)⟩⟩, ⟨14, .v, ⟨(some i166), none, .indexSl 1 (.t i155) (.t i156)⟩⟩, ⟨15, .e, ⟨none, none, .store none (.t i166) (.t i164)⟩⟩])
  (.seq (.region [⟨(some i167), none, .move (.t i11)⟩, ⟨(some i8), none, .move (.t i167)⟩, ⟨(some i9), none, .move (.c (.bool false))⟩])
  .ret))))))))))))⟩
theorem tr292 : trFunc (tyIn Tryz.prog tyn) ibn Tryz.f292 = some af292 := by kernel_rfl
theorem nm292 : (Tryz.f292.name == "runtime.NumGoroutine") = false := by kernel_rfl
theorem good292 : GoodAt Tryz.prog tyn ibn i292 af292 := goodAt Tryz.func292 tr292 nm292 rfl
def af293 : AFunc := ⟨[.tmp i2], (.seq (.region [⟨(some i2), none, .move (.c (.int .i64 (.ofNat 0)))⟩])
  (.seq (.seq (.region [⟨(some i3), none, .move (.t i0)⟩, ⟨(some i4), none, .bin .geq (.t i3) (.c (.int .u32 (.ofNat 65536)))⟩])
  (.cond (.t i4) (.seq (.region [⟨(some i5), none, .move (.t i0)⟩, ⟨(some i6), none, .bin .shr (.t i5) (.c (.int .u64 (.ofNat 16)))⟩, ⟨(some i0), none, .move (.t i6)⟩])
  (.region [⟨(some i2), none, .move (.c (.int .i64 (.ofNat 16)))⟩]))
  .skip))
  (.seq (.seq (.region [⟨(some i7), none, .move (.t i0)⟩, ⟨(some i8), none, .bin .geq (.t i7) (.c (.int .u32 (.ofNat 256)))⟩])
  (.cond (.t i8) (.seq (.region [⟨(some i9), none, .move (.t i0)⟩, ⟨(some i10), none, .bin .shr (.t i9) (.c (.int .u64 (.ofNat 8)))⟩, ⟨(some i0), none, .move (.t i10)⟩])
  (.region [⟨(some i11), none, .move (.t i2)⟩, ⟨(some i12), none, .bin .add (.t i11) (.c (.int .i64 (.ofNat 8)))⟩, ⟨(some i2), none, .move (.t i12)⟩]))
  .skip))
  (.seq (.region [⟨(some i13), none, .move (.t i2)⟩, ⟨(some i14), none, .move (.t i0)⟩, ⟨(some i15), none, .conv .u8 (.t i14)⟩, ⟨(some i16), none, .indexStr (.c (.str [0, 1, 2, 2, 3, 3, 3, 3, 4, 4, 4, 4, 4, 4, 4, 4, 5, 5, 5, 5, 5, 5, 5, 5, 5, 5, 5, 5, 5, 5, 5, 5, 6, 6, 6, 6, 6, 6, 6, 6, 6, 6, 6, 6, 6, 6, 6, 6, 6, 6, 6, 6, 6, 6, 6, 6, 6, 6, 6, 6, 6, 6, 6, 6, 7, 7, 7, 7, 7, 7, 7, 7, 7, 7, 7, 7, 7, 7, 7, 7, 7, 7, 7, 7, 7, 7, 7, 7, 7, 7, 7, 7, 7, 7, 7, 7, 7, 7, 7, 7, 7, 7, 7, 7, 7, 7, 7, 7, 7, 7, 7, 7, 7, 7, 7, 7, 7, 7, 7, 7, 7, 7, 7, 7, 7, 7, 7, 7, 8, 8, 8, 8, 8, 8, 8, 8, 8, 8, 8, 8, 8, 8, 8, 8, 8, 8, 8, 8, 8, 8, 8, 8, 8, 8, 8, 8, 8, 8, 8, 8, 8, 8, 8, 8, 8, 8, 8, 8, 8, 8, 8, 8, 8, 8, 8, 8, 8, 8, 8, 8, 8, 8, 8, 8, 8, 8, 8, 8, 8, 8, 8, 8, 8, 8, 8, 8, 8, 8, 8, 8, 8, 8, 8, 8, 8, 8, 8, 8, 8, 8, 8, 8, 8, 8, 8, 8, 8, 8, 8, 8, 8, 8, 8, 8, 8, 8, 8, 8, 8, 8, 8, 8, 8, 8, 8, 8, 8, 8, 8, 8, 8, 8, 8, 8, 8, 8, 8, 8, 8, 8, 8, 8, 8, 8, 8, 8])) (.t i15)⟩, ⟨(some i17), none, .conv .i64 (.t i16)⟩, ⟨(some i18), none, .bin .add (.t i13) (.t i17)⟩, ⟨(some i2), none, .move (.t i18)⟩])
  .ret))))⟩
theorem tr293 : trFunc (tyIn Tryz.prog tyn) ibn Tryz.f293 = some af293 := by kernel_rfl
theorem nm293 : (Tryz.f293.name == "runtime.NumGoroutine") = false := by kernel_rfl
theorem good293 : GoodAt Tryz.prog tyn ibn i293 af293 := goodAt Tryz.func293 tr293 nm293 rfl
def af294 : AFunc := ⟨[.tmp i2], (.seq (.region [⟨(some i2), none, .move (.c (.int .i64 (.ofNat 0)))⟩])
  (.seq (.seq (.region [⟨(some i3), none, .move (.t i0)⟩, ⟨(some i4), none, .bin .geq (.t i3) (.c (.int .u64 (.ofNat 4294967296)))⟩])
  (.cond (.t i4) (.seq (.region [⟨(some i5), none, .move (.t i0)⟩, ⟨(some i6), none, .bin .shr (.t i5) (.c (.int .u64 (.ofNat 32)))⟩, ⟨(some i0), none, .move (.t i6)⟩])
  (.region [⟨(some i2), none, .move (.c (.int .i64 (.ofNat 32)))⟩]))
  .skip))
  (.seq (.seq (.region [⟨(some i7), none, .move (.t i0)⟩, ⟨(some i8), none, .bin .geq (.t i7) (.c (.int .u64 (.ofNat 65536)))⟩])
  (.cond (.t i8) (.seq (.region [⟨(some i9), none, .move (.t i0)⟩, ⟨(some i10), none, .bin .shr (.t i9) (.c (.int .u64 (.ofNat 16)))⟩, ⟨(some i0), none, .move (.t i10)⟩])
  (.region [⟨(some i11), none, .move (.t i2)⟩, ⟨(some i12), none, .bin .add (.t i11) (.c (.int .i64 (.ofNat 16)))⟩, ⟨(some i2), none, .move (.t i12)⟩]))
  .skip))
  (.seq (.seq (.region [⟨(some i13), none, .move (.t i0)⟩, ⟨(some i14), none, .bin .geq (.t i13) (.c (.int .u64 (.ofNat 256)))⟩])
  (.cond (.t i14) (.seq (.region [⟨(some i15), none, .move (.t i0)⟩, ⟨(some i16), none, .bin .shr (.t i15) (.c (.int .u64 (.ofNat 8)))⟩, ⟨(some i0), none, .move (.t i16)⟩])
  (.region [⟨(some i17), none, .move (.t i2)⟩, ⟨(some i18), none, .bin .add (.t i17) (.c (.int .i64 (.ofNat 8)))⟩, ⟨(some i2), none, .move (.t i18)⟩]))
  .skip))
  (.seq (.region [⟨(some i19), none, .move (.t i2)⟩, ⟨(some i20), none, .move (.t i0)⟩, ⟨(some i21), none, .conv .u8 (.t i20)⟩, ⟨(some i22), none, .indexStr (.c (.str [0, 1, 2, 2, 3, 3, 3, 3, 4, 4, 4, 4, 4, 4, 4, 4, 5, 5, 5, 5, 5, 5, 5, 5, 5, 5, 5, 5, 5, 5, 5, 5, 6, 6, 6, 6, 6, 6, 6, 6, 6, 6, 6, 6, 6, 6, 6, 6, 6, 6, 6, 6, 6, 6, 6, 6, 6, 6, 6, 6, 6, 6, 6, 6, 7, 7, 7, 7, 7, 7, 7, 7, 7, 7, 7, 7, 7, 7, 7, 7, 7, 7, 7, 7, 7, 7, 7, 7, 7, 7, 7, 7, 7, 7, 7, 7, 7, 7, 7, 7, 7, 7, 7, 7, 7, 7, 7, 7, 7, 7, 7, 7, 7, 7, 7, 7, 7, 7, 7, 7, 7, 7, 7, 7, 7, 7, 7, 7, 8, 8, 8, 8, 8, 8, 8, 8, 8, 8, 8, 8, 8, 8, 8, 8, 8, 8, 8, 8, 8, 8, 8, 8, 8, 8, 8, 8, 8, 8, 8, 8, 8, 8, 8, 8, 8, 8, 8, 8, 8, 8, 8, 8, 8, 8, 8, 8, 8, 8, 8, 8, 8, 8, 8, 8, 8, 8, 8, 8, 8, 8, 8, 8, 8, 8, 8, 8, 8, 8, 8, 8, 8, 8, 8, 8, 8, 8, 8, 8, 8, 8, 8, 8, 8, 8, 8, 8, 8, 8, 8, 8, 8, 8, 8, 8, 8, 8, 8, 8, 8, 8, 8, 8, 8, 8, 8, 8, 8, 8, 8, 8, 8, 8, 8, 8, 8, 8, 8, 8, 8, 8, 8, 8, 8, 8, 8, 8])) (.t i21)⟩, ⟨(some i23), none, .conv .i64 (.t i22)⟩, ⟨(some i24), none, .bin .add (.t i19) (.t i23)⟩, ⟨(some i2), none, .move (.t i24)⟩])
  .ret)))))⟩
theorem tr294 : trFunc (tyIn Tryz.prog tyn) ibn Tryz.f294 = some af294 := by kernel_rfl
theorem nm294 : (Tryz.f294.name == "runtime.NumGoroutine") = false := by kernel_rfl
theorem good294 : GoodAt Tryz.prog tyn ibn i294 af294 := goodAt Tryz.func294 tr294 nm294 rfl
def af295 : AFunc := ⟨[.tmp i3], (.seq (.region [⟨(some i3), none, .move (.c (.int .i64 (.ofNat 0)))⟩])
  (.seq (.block 0 (.seq (.region [⟨(some i5), none, .load (some 4) (.t i1)⟩, ⟨(some i6), none, .call i296 [(.t i5)]⟩, ⟨(some i7), none, .not (.t i6)⟩, ⟨(some i4), none, .move (.t i7)⟩])
  (.cond (.t i4) (.seq (.region [⟨(some i3), none, .move (.c (.int .i64 (.ofNat 2)))⟩])
  .ret)
  (.seq (.region [⟨(some i9), none, .move (.t i0)⟩, ⟨(some i10), none, .nilCheck (.t i9)⟩, ⟨(some i11), none, .fieldAddr 0 (.t i10)⟩, ⟨(some i12), none, .load none (.t i11)⟩, ⟨(some i13), none, .not (.t i12)⟩, ⟨(some i8), none, .move (.t i13)⟩])
  (.cond (.t i8) (.seq (.region [⟨(some i3), none, .move (.c (.int .i64 (.ofNat 3)))⟩])
  .ret)
  (.seq (.region [⟨(some i15), none, .move (.t i0)⟩, ⟨(some i16), none, .nilCheck (.t i15)⟩, ⟨(some i17), none, .fieldAddr 1 (.t i16)⟩, ⟨(some i18), none, .load none (.t i17)⟩, ⟨(some i19), none, .bin (.ne .ptr) (.t i18) (.c .nilptr)⟩, ⟨(some i14), none, .move (.t i19)⟩])
  (.cond (.t i14) (.seq (.region [⟨(some i3), none, .move (.c (.int .i64 (.ofNat 9)))⟩])
  .ret)
  .skip)))))))
  (.seq (.region [⟨(some i20), none, .move (.t i0)⟩, ⟨(some i21), none, .nilCheck (.t i20)⟩, ⟨(some i22), none, .fieldAddr 1 (.t i21)⟩, ⟨none, none, .store none (.t i22) (.t i1)⟩])
  (.seq (.region [⟨(some i3), none, .move (.c (.int .i64 (.ofNat 0)))⟩])
  .ret))))⟩
theorem tr295 : trFunc (tyIn Tryz.prog tyn) ibn Tryz.f295 = some af295 := by kernel_rfl
theorem nm295 : (Tryz.f295.name == "runtime.NumGoroutine") = false := by kernel_rfl
theorem good295 : GoodAt Tryz.prog tyn ibn i295 af295 := goodAt Tryz.func295 tr295 nm295 rfl
def af296 : AFunc := ⟨[.tmp i2], (.seq (.region [⟨(some i1), none, .box (.t i0)⟩, ⟨(some i2), none, .move (.c (.bool false))⟩])
  (.seq (.seq (.region [⟨(some i3), none, .fieldAddr 0 (.t i1)⟩, ⟨(some i4), none, .load none (.t i3)⟩, ⟨(some i5), none, .bin .lss (.t i4) (.c (.int .i64 (.negSucc 0)))⟩, ⟨(some i6), none, .move (.t i5)⟩, ⟨(some i7), (some (i6, false)), .fieldAddr 0 (.t i1)⟩, ⟨(some i8), (some (i6, false)), .load none (.t i7)⟩, ⟨(some i9), (some (i6, false)), .bin .geq (.t i8) (.c (.int .i64 (.ofNat 6)))⟩, ⟨(some i10), none, .pick (.t i6) (.c (.bool true)) (.t i9)⟩])
  (.cond (.t i10) (.seq (.region [⟨(some i2), none, .move (.c (.bool false))⟩])
  .ret)
  .skip))
  (.seq (.seq (.region [⟨(some i11), none, .fieldAddr 3 (.t i1)⟩, ⟨(some i12), none, .load none (.t i11)⟩])
  (.block 0 (.seq (.region [⟨(some i14), none, .bin (.eq .int) (.t i12) (.c (.int .i64 (.ofNat 0)))⟩, ⟨(some i13), none, .move (.t i14)⟩])
  (.cond (.t i13) (.seq (.region [⟨(some i2), none, .move (.c (.bool true))⟩])
  .ret)
  (.seq (.seq (.region [⟨(some i16), none, .bin (.eq .int) (.t i12) (.c (.int .i64 (.ofNat 140)))⟩, ⟨(some i15), none, .move (.t i16)⟩])
  (.cond (.t i15) .skip
  (.seq (.region [⟨(some i17), none, .bin (.eq .int) (.t i12) (.c (.int .i64 (.ofNat 141)))⟩, ⟨(some i15), none, .move (.t i17)⟩])
  (.cond (.t i15) .skip
  (.seq (.region [⟨(some i18), none, .bin (.eq .int) (.t i12) (.c (.int .i64 (.ofNat 142)))⟩, ⟨(some i15), none, .move (.t i18)⟩])
  (.cond (.t i15) .skip
  (.region [⟨(some i19), none, .bin (.eq .int) (.t i12) (.c (.int .i64 (.ofNat 143)))⟩, ⟨(some i15), none, .move (.t i19)⟩])))))))
  (.cond (.t i15) (.seq (.region [⟨(some i20), none, .fieldAddr 1 (.t i1)⟩, ⟨(some i21), none, .load none (.t i20)⟩, ⟨(some i22), none, .bin (.eq .int) (.t i21) (.c (.int .i64 (.ofNat 0)))⟩, ⟨(some i23), none, .move (.t i22)⟩, ⟨(some i24), (some (i23, true)), .fieldAddr 2 (.t i1)⟩, ⟨(some i25), (some (i23, true)), .load none (.t i24)⟩, ⟨(some i26), (some (i23, true)), .not (.t i25)⟩, ⟨(some i27), none, .pick (.t i23) (.t i26) (.c (.bool false))⟩, ⟨(some i2), none, .move (.t i27)⟩])
  .ret)
  .skip))))))
  (.seq (.region [⟨(some i2), none, .move (.c (.bool false))⟩])
  .ret))))⟩
theorem tr296 : trFunc (tyIn Tryz.prog tyn) ibn Tryz.f296 = some af296 := by kernel_rfl
theorem nm296 : (Tryz.f296.name == "runtime.NumGoroutine") = false := by kernel_rfl
theorem good296 : GoodAt Tryz.prog tyn ibn i296 af296 := goodAt Tryz.func296 tr296 nm296 rfl
def af297 : AFunc := ⟨[], (.seq (.region [⟨(some i10), none, .move (.t i1)⟩, ⟨(some i8), none, .move (.t i10)⟩])
  (.block 0 (.loop (.block 1 (.seq (.region [⟨(some i11), none, .move (.t i8)⟩, ⟨(some i12), none, .bin .mul (.c (.int .i64 (.ofNat 2))) (.t i11)⟩, ⟨(some i13), none, .bin .add (.t i12) (.c (.int .i64 (.ofNat 1)))⟩, ⟨(some i9), none, .move (.t i13)⟩])
  (.seq (.seq (.region [⟨(some i14), none, .move (.t i9)⟩, ⟨(some i15), none, .move (.t i2)⟩, ⟨(some i16), none, .bin .geq (.t i14) (.t i15)⟩])
  (.cond (.t i16) (.exit 0)
  .skip))
  (.seq (.seq (.drawn [⟨0, .v, ⟨(some i17), none, .move (.t i9)⟩⟩, ⟨1, .v, ⟨(some i18), none, .bin .add (.t i17) (.c (.int .i64 (.ofNat 1)))⟩⟩, ⟨2, .v, ⟨(some i19), none, .move (.t i2)⟩⟩, ⟨3, .v, ⟨(some i20), none, .bin .lss (.t i18) (.t i19)⟩⟩, ⟨4, .v, ⟨(some i21), none, .move (.t i20)⟩⟩, ⟨5, .v, ⟨(some i22), (some (i21, true)), .move (.t i0)⟩⟩, ⟨6, .v, ⟨(some i23), (some (i21, true)), .move (.t i3)⟩⟩, ⟨7, .v, ⟨(some i24), (some (i21, true)), .move (.t i9)⟩⟩, ⟨8, .v, ⟨(some i25), (some (i21, true)), .bin .add (.t i23) (.t i24)⟩⟩, ⟨9, .v, ⟨(some i26), (some (i21, true)), .indexSl 1 (.t i22) (.t i25)⟩⟩, ⟨10, (.r 0), ⟨(some i27), (some (i21, true)), .load none (.t i26)⟩⟩, ⟨11, .v, ⟨(some i28), (some (i21, true)), .move (.t i0)⟩⟩, ⟨12, .v, ⟨(some i29), (some (i21, true)), .move (.t i3)⟩⟩, ⟨13, .v, ⟨(some i30), (some (i21, true)), .move (.t i9)⟩⟩, ⟨14, .v, ⟨(some i31), (some (i21, true)), .bin .add (.t i29) (.t i30)⟩⟩, ⟨15, .v, ⟨(some i32), (some (i21, true)), .bin .add (.t i31) (.c (.int .i64 (.ofNat 1)))⟩⟩, ⟨16, .v, ⟨(some i33), (some (i21, true)), .indexSl 1 (.t i28) (.t i32)⟩⟩, ⟨17, (.r 0), ⟨(some i34), (some (i21, true)), .load none (.t i33)⟩⟩, ⟨18, .e, ⟨(some i35), (some (i21, true)), .call i290 [(.t i27), (.t i34)]⟩⟩, ⟨19, .v, ⟨(some i36), none, .pick (.t i21) (.t i35) (.c (.bool false))⟩⟩])
  (.cond (.t i36) (.region [⟨(some i37), none, .move (.t i9)⟩, ⟨(some i38), none, .bin .add (.t i37) (.c (.int .i64 (.ofNat 1)))⟩, ⟨(some i9), none, .move (.t i38)⟩])
  .skip))
  (.seq (.seq (.drawn [⟨0, .v, ⟨(some i39), none, .move (.t i0)⟩⟩, ⟨1, .v, ⟨(some i40), none, .move (.t i3)⟩⟩, ⟨2, .v, ⟨(some i41), none, .move (.t i8)⟩⟩, ⟨3, .v, ⟨(some i42), none, .bin .add (.t i40) (.t i41)⟩⟩, ⟨4, .v, ⟨(some i43), none, .indexSl 1 (.t i39) (.t i42)⟩⟩, ⟨5, (.r 0), ⟨(some i44), none, .load none (.t i43)⟩⟩, ⟨6, .v, ⟨(some i45), none, .move (.t i0)⟩⟩, ⟨7, .v, ⟨(some i46), none, .move (.t i3)⟩⟩, ⟨8, .v, ⟨(some i47), none, .move (.t i9)⟩⟩, ⟨9, .v, ⟨(some i48), none, .bin .add (.t i46) (.t i47)⟩⟩, ⟨10, .v, ⟨(some i49), none, .indexSl 1 (.t i45) (.t i48)⟩⟩, ⟨11, (.r 0), ⟨(some i50), none, .load none (.t i49)⟩⟩, ⟨12, .e, ⟨(some i51), none, .call i290 [(.t i44), (.t i50)]⟩⟩, ⟨13, .v, ⟨(some i52), none, .not (.t i51)⟩⟩])
  (.cond (.t i52) .ret
  .skip))
  (.seq (.drawn [⟨0, .v, ⟨(some i53), none, .move (.t i0)⟩⟩, ⟨1, .v, ⟨(some i54), none, .move (.t i3)⟩⟩, ⟨2, .v, ⟨(some i55), none, .move (.t i8)⟩⟩, ⟨3, .v, ⟨(some i56), none, .bin .add (.t i54) (.t i55)⟩⟩, ⟨8, .v, ⟨(some i61), none, .move (.t i0)⟩⟩, ⟨9, .v, ⟨(some i62), none, .move (.t i3)⟩⟩, ⟨10, .v, ⟨(some i63), none, .move (.t i9)⟩⟩, ⟨11, .v, ⟨(some i64), none, .bin .add (.t i62) (.t i63)⟩⟩, ⟨12, .v, ⟨(some i65), none, .indexSl 1 (.t i61) (.t i64)⟩⟩, ⟨13, (.r 0), ⟨(some i66), none, .load none (.t i65)⟩⟩, ⟨14, .v, ⟨(some i67), none, .move (.t i0)⟩⟩, ⟨15, .v, ⟨(some i68), none, .move (.t i3)⟩⟩, ⟨16, .v, ⟨(some i69), none, .move (.t i8)⟩⟩, ⟨17, .v, ⟨(some i70), none, .bin .add (.t i68) (.t i69)⟩⟩, ⟨18, .v, ⟨(some i71), none, .indexSl 1 (.t i67) (.t i70)⟩⟩, ⟨19, (.r 0), ⟨(some i72), none, .load none (.t i71)⟩⟩, ⟨20, .v, ⟨(some i73), none, .indexSl 1 (.t i53) (.t i56)⟩⟩, ⟨21, .e, ⟨none, none, .store none (.t i73) (.t i66)⟩⟩, ⟨4, .v, ⟨(some i57), none, .move (.t i0)⟩⟩, ⟨5, .v, ⟨(some i58), none, .move (.t i3)⟩⟩, ⟨6, .v, ⟨(some i59), none, .move (.t i9)⟩⟩, ⟨7, .v, ⟨(some i60), none, .bin .add (.t i58) (.t i59)⟩⟩, ⟨22, .v, ⟨(some i74), none, .indexSl 1 (.t i57) (.t i60)⟩⟩, ⟨23, .e, ⟨none, none, .store none (.t i74) (.t i72)⟩⟩])
  (.region [⟨(some i75), none, .move (.t i9)⟩, ⟨(some i8), none, .move (.t i75)⟩]))))))))))⟩
theorem tr297 : trFunc (tyIn Tryz.prog tyn) ibn Tryz.f297 = some af297 := by kernel_rfl
theorem nm297 : (Tryz.f297.name == "runtime.NumGoroutine") = false := by kernel_rfl
theorem good297 : GoodAt Tryz.prog tyn ibn i297 af297 := goodAt Tryz.func297 tr297 nm297 rfl
def af298 : AFunc := ⟨[.tmp i2], (.seq (.region [⟨(some i2), none, .move (.c (.int .u64 (.ofNat 0)))⟩])
  (.seq (.region [⟨(some i3), none, .move (.t i0)⟩, ⟨(some i4), none, .conv .u64 (.t i3)⟩, ⟨(some i5), none, .call i277 [(.t i4)]⟩, ⟨(some i6), none, .bin .shl (.c (.int .u64 (.ofNat 1))) (.t i5)⟩, ⟨(some i2), none, .move (.t i6)⟩])
  .ret))⟩
theorem tr298 : trFunc (tyIn Tryz.prog tyn) ibn Tryz.f298 = some af298 := by kernel_rfl
theorem nm298 : (Tryz.f298.name == "runtime.NumGoroutine") = false := by kernel_rfl
theorem good298 : GoodAt Tryz.prog tyn ibn i298 af298 := goodAt Tryz.func298 tr298 nm298 rfl
def af299 : AFunc := ⟨[.tmp i2], (.seq (.region [⟨(some i2), none, .move (.c (.int .u64 (.ofNat 0)))⟩])
  (.seq (.drawn [⟨0, .v, ⟨(some i3), none, .move (.t i0)⟩⟩, ⟨1, .v, ⟨(some i4), none, .nilCheck (.t i3)⟩⟩, ⟨2, (.r 0), ⟨(some i5), none, .load none (.t i4)⟩⟩, ⟨3, .v, ⟨(some i6), none, .move (.t i0)⟩⟩, ⟨4, .v, ⟨(some i7), none, .nilCheck (.t i6)⟩⟩, ⟨5, (.r 0), ⟨(some i8), none, .load none (.t i7)⟩⟩, ⟨6, .v, ⟨(some i9), none, .bin .shl (.t i8) (.c (.int .u64 (.ofNat 13)))⟩⟩, ⟨7, .v, ⟨(some i10), none, .bin .xor (.t i5) (.t i9)⟩⟩, ⟨8, .v, ⟨(some i11), none, .nilCheck (.t i3)⟩⟩, ⟨9, .e, ⟨none, none, .store none (.t i11) (.t i10)⟩⟩])
  (.seq (.drawn [⟨0, .v, ⟨(some i12), none, .move (.t i0)⟩⟩, ⟨1, .v, ⟨(some i13), none, .nilCheck (.t i12)⟩⟩, ⟨2, (.r 0), ⟨(some i14), none, .load none (.t i13)⟩⟩, ⟨3, .v, ⟨(some i15), none, .move (.t i0)⟩⟩, ⟨4, .v, ⟨(some i16), none, .nilCheck (.t i15)⟩⟩, ⟨5, (.r 0), ⟨(some i17), none, .load none (.t i16)⟩⟩, ⟨6, .v, ⟨(some i18), none, .bin .shr (.t i17) (.c (.int .u64 (.ofNat 7)))⟩⟩, ⟨7, .v, ⟨(some i19), none, .bin .xor (.t i14) (.t i18)⟩⟩, ⟨8, .v, ⟨(some i20), none, .nilCheck (.t i12)⟩⟩, ⟨9, .e, ⟨none, none, .store none (.t i20) (.t i19)⟩⟩])
  (.seq (.drawn [⟨0, .v, ⟨(some i21), none, .move (.t i0)⟩⟩, ⟨1, .v, ⟨(some i22), none, .nilCheck (.t i21)⟩⟩, ⟨2, (.r 0), ⟨(some i23), none, .load none (.t i22)⟩⟩, ⟨3, .v, ⟨(some i24), none, .move (.t i0)⟩⟩, ⟨4, .v, ⟨(some i25), none, .nilCheck (.t i24)⟩⟩, ⟨5, (.r 0), ⟨(some i26), none, .load none (.t i25)⟩⟩, ⟨6, .v, ⟨(some i27), none, .bin .shl (.t i26) (.c (.int .u64 (.ofNat 17)))⟩⟩, ⟨7, .v, ⟨(some i28), none, .bin .xor (.t i23) (.t i27)⟩⟩, ⟨8, .v, ⟨(some i29), none, .nilCheck (.t i21)⟩⟩, ⟨9, .e, ⟨none, none, .store none (.t i29) (.t i28)⟩⟩])
  (.seq (.region [⟨(some i30), none, .move (.t i0)⟩, ⟨(some i31), none, .nilCheck (.t i30)⟩, ⟨(some i32), none, .load none (.t i31)⟩, ⟨(some i2), none, .move (.t i32)⟩])
  .ret)))))⟩
theorem tr299 : trFunc (tyIn Tryz.prog tyn) ibn Tryz.f299 = some af299 := by kernel_rfl
theorem nm299 : (Tryz.f299.name == "runtime.NumGoroutine") = false := by kernel_rfl
theorem good299 : GoodAt Tryz.prog tyn ibn i299 af299 := goodAt Tryz.func299 tr299 nm299 rfl
def af300 : AFunc := ⟨[.tmp i6], (.seq (.region [⟨(some i6), none, .move (.c (.int .i64 (.ofNat 0)))⟩])
  (.seq (.region [⟨(some i7), none, .move (.t i0)⟩, ⟨(some i8), none, .move (.t i1)⟩, ⟨(some i9), none, .bin .sub (.t i8) (.c (.int .i64 (.ofNat 1)))⟩, ⟨(some i10), none, .move (.t i1)⟩, ⟨(some i11), none, .move (.t i1)⟩, ⟨(some i12), none, .bin .add (.t i11) (.c (.int .i64 (.ofNat 1)))⟩, ⟨(some i13), none, .move (.t i2)⟩, ⟨(some i14), none, .call i301 [(.t i7), (.t i9), (.t i10), (.t i12), (.t i13)]⟩, ⟨(some i6), none, .move (.t i14)⟩])
  .ret))⟩
theorem tr300 : trFunc (tyIn Tryz.prog tyn) ibn Tryz.f300 = some af300 := by kernel_rfl
theorem nm300 : (Tryz.f300.name == "runtime.NumGoroutine") = false := by kernel_rfl
theorem good300 : GoodAt Tryz.prog tyn ibn i300 af300 := goodAt Tryz.func300 tr300 nm300 rfl
def af301 : AFunc := ⟨[.tmp i10], (.seq (.region [⟨(some i10), none, .move (.c (.int .i64 (.ofNat 0)))⟩])
  (.seq (.region [⟨(some i12), none, .move (.t i0)⟩, ⟨(some i13), none, .move (.t i1)⟩, ⟨(some i14), none, .move (.t i2)⟩, ⟨(some i15), none, .move (.t i4)⟩, ⟨(some i16), none, .call i303 [(.t i12), (.t i13), (.t i14), (.t i15)]⟩, ⟨(some i11), none, .move (.t i16)⟩, ⟨(some i17), none, .extract 0 (.t i11)⟩, ⟨(some i18), none, .extract 1 (.t i11)⟩, ⟨(some i1), none, .move (.t i17)⟩, ⟨(some i2), none, .move (.t i18)⟩])
  (.seq (.region [⟨(some i20), none, .move (.t i0)⟩, ⟨(some i21), none, .move (.t i2)⟩, ⟨(some i22), none, .move (.t i3)⟩, ⟨(some i23), none, .move (.t i4)⟩, ⟨(some i24), none, .call i303 [(.t i20), (.t i21), (.t i22), (.t i23)]⟩, ⟨(some i19), none, .move (.t i24)⟩, ⟨(some i25), none, .extract 0 (.t i19)⟩, ⟨(some i26), none, .extract 1 (.t i19)⟩, ⟨(some i2), none, .move (.t i25)⟩, ⟨(some i3), none, .move (.t i26)⟩])
  (.seq (.region [⟨(some i28), none, .move (.t i0)⟩, ⟨(some i29), none, .move (.t i1)⟩, ⟨(some i30), none, .move (.t i2)⟩, ⟨(some i31), none, .move (.t i4)⟩, ⟨(some i32), none, .call i303 [(.t i28), (.t i29), (.t i30), (.t i31)]⟩, ⟨(some i27), none, .move (.t i32)⟩, ⟨(some i33), none, .extract 0 (.t i27)⟩, ⟨(some i34), none, .extract 1 (.t i27)⟩, ⟨(some i1), none, .move (.t i33)⟩, ⟨(some i2), none, .move (.t i34)⟩])
  (.seq (.region [⟨(some i35), none, .move (.t i2)⟩, ⟨(some i10), none, .move (.t i35)⟩])
  .ret)))))⟩
theorem tr301 : trFunc (tyIn Tryz.prog tyn) ibn Tryz.f301 = some af301 := by kernel_rfl
theorem nm301 : (Tryz.f301.name == "runtime.NumGoroutine") = false := by kernel_rfl
theorem good301 : GoodAt Tryz.prog tyn ibn i301 af301 := goodAt Tryz.func301 tr301 nm301 rfl
def af302 : AFunc := ⟨[.tmp i2], (.seq (.region [⟨(some i2), none, .move (.c (.bool false))⟩])
  (.seq (.region [⟨(some i3), none, .move (.t i0)⟩, ⟨(some i4), none, .move (.t i0)⟩, ⟨(some i5), none, .bin (.ne .int) (.t i3) (.t i4)⟩, ⟨(some i2), none, .move (.t i5)⟩])
  .ret))⟩
theorem tr302 : trFunc (tyIn Tryz.prog tyn) ibn Tryz.f302 = some af302 := by kernel_rfl
theorem nm302 : (Tryz.f302.name == "runtime.NumGoroutine") = false := by kernel_rfl
theorem good302 : GoodAt Tryz.prog tyn ibn i302 af302 := goodAt Tryz.func302 tr302 nm302 rfl
def af303 : AFunc := ⟨[.tmp i8, .tmp i9], (.seq (.region [⟨(some i8), none, .move (.c (.int .i64 (.ofNat 0)))⟩, ⟨(some i9), none, .move (.c (.int .i64 (.ofNat 0)))⟩])
  (.seq (.seq (.drawn [⟨0, .v, ⟨(some i10), none, .move (.t i0)⟩⟩, ⟨1, .v, ⟨(some i11), none, .move (.t i2)⟩⟩, ⟨2, .v, ⟨(some i12), none, .indexSl 1 (.t i10) (.t i11)⟩⟩, ⟨3, (.r 0), ⟨(some i13), none, .load none (.t i12)⟩⟩, ⟨4, .v, ⟨(some i14), none, .move (.t i0)⟩⟩, ⟨5, .v, ⟨(some i15), none, .move (.t i1)⟩⟩, ⟨6, .v, ⟨(some i16), none, .indexSl 1 (.t i14) (.t i15)⟩⟩, ⟨7, (.r 0), ⟨(some i17), none, .load none (.t i16)⟩⟩, ⟨8, .e, ⟨(some i18), none, .call i290 [(.t i13), (.t i17)]⟩⟩])
  (.cond (.t i18) (.seq (.region [⟨(some i19), none, .move (.t i3)⟩, ⟨(some i20), none, .nilCheck (.t i19)⟩, ⟨(some i21), none, .load none (.t i20)⟩, ⟨(some i22), none, .bin .add (.t i21) (.c (.int .i64 (.ofNat 1)))⟩, ⟨(some i23), none, .nilCheck (.t i19)⟩, ⟨none, none, .store none (.t i23) (.t i22)⟩])
  (.seq (.region [⟨(some i24), none, .move (.t i2)⟩, ⟨(some i25), none, .move (.t i1)⟩, ⟨(some i8), none, .move (.t i24)⟩, ⟨(some i9), none, .move (.t i25)⟩])
  .ret))
  .skip))
  (.seq (.region [⟨(some i26), none, .move (.t i1)⟩, ⟨(some i27), none, .move (.t i2)⟩, ⟨(some i8), none, .move (.t i26)⟩, ⟨(some i9), none, .move (.t i27)⟩])
  .ret)))⟩
theorem tr303 : trFunc (tyIn Tryz.prog tyn) ibn Tryz.f303 = some af303 := by kernel_rfl
theorem nm303 : (Tryz.f303.name == "runtime.NumGoroutine") = false := by kernel_rfl
theorem good303 : GoodAt Tryz.prog tyn ibn i303 af303 := goodAt Tryz.func303 tr303 nm303 rfl
end Go.Am

