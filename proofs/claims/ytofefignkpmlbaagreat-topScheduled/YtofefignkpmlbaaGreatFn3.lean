/- An abstract machine for Go code and its soundness over the model; no condition of its own. Used by the proof that the law TopScheduled returns true at every input. -/
import Derived.Test.YtofefignkpmlbaaGreatFnPos
import Derived.Test.YtofefignkpmlbaaGreatFn2
namespace Go.Am
open Go.Proofs
def af193 : AFunc := ⟨[.cell i4 none], (.seq (.region [⟨(some i2), none, .box (.t i0)⟩, ⟨(some i4), none, .alloc [(.int .u64 (.ofNat 0))]⟩])
  (.seq (.region [⟨(some i5), none, .load none (.t i2)⟩, ⟨(some i6), none, .move (.t i1)⟩, ⟨(some i7), none, .mkfn i229 [] [(.t i2), (.t i4)]⟩, ⟨(some i8), none, .call i228 [(.t i5), (.t i6), (.t i7)]⟩])
  (.seq (.region [⟨(some i9), none, .load none (.t i4)⟩, ⟨none, none, .store none (.t i4) (.t i9)⟩])
  .ret)))⟩
theorem tr193 : trFunc (tyIn Tryz.prog tyn) ibn Tryz.f193 = some af193 := by kernel_rfl
theorem nm193 : (Tryz.f193.name == "runtime.NumGoroutine") = false := by kernel_rfl
theorem good193 : GoodAt Tryz.prog tyn ibn i193 af193 := goodAt Tryz.func193 tr193 nm193 rfl
def af194 : AFunc := ⟨[.tmp i4], (.seq (.region [⟨(some i4), none, .move (.c (.int .i64 (.ofNat 0)))⟩])
  (.seq (.region [⟨(some i5), none, .move (.t i0)⟩, ⟨(some i6), none, .move (.t i1)⟩, ⟨(some i7), none, .call i114 [(.t i5), (.t i6), (.c (.fn i231 [] []))]⟩, ⟨(some i4), none, .move (.t i7)⟩])
  .ret))⟩
theorem tr194 : trFunc (tyIn Tryz.prog tyn) ibn Tryz.f194 = some af194 := by kernel_rfl
theorem nm194 : (Tryz.f194.name == "runtime.NumGoroutine") = false := by kernel_rfl
theorem good194 : GoodAt Tryz.prog tyn ibn i194 af194 := goodAt Tryz.func194 tr194 nm194 rfl
def af195 : AFunc := ⟨[], (.seq (.region [⟨(some i8), none, .move (.t i0)⟩, ⟨(some i9), none, .move (.t i1)⟩, ⟨(some i10), none, .call i232 [(.t i8), (.t i9)]⟩, ⟨(some i4), none, .move (.t i10)⟩])
  (.seq (.region [⟨(some i11), none, .move (.t i4)⟩, ⟨(some i12), none, .move (.t i1)⟩, ⟨(some i13), none, .nilCheck (.t i12)⟩, ⟨(some i14), none, .fieldAddr 17 (.t i13)⟩, ⟨(some i15), none, .load none (.t i14)⟩, ⟨(some i16), none, .indexSl 4 (.t i11) (.t i15)⟩, ⟨(some i17), none, .load (some 4) (.t i16)⟩, ⟨(some i5), none, .alloc [(.int .i64 (.ofNat 0)), (.bool false), (.int .i64 (.ofNat 0)), (.int .i64 (.ofNat 0))]⟩, ⟨none, none, .store (some 4) (.t i5) (.t i17)⟩])
  (.seq (.drawn [⟨0, .v, ⟨(some i19), none, .move (.t i0)⟩⟩, ⟨1, .v, ⟨(some i20), none, .nilCheck (.t i19)⟩⟩, ⟨2, .v, ⟨(some i21), none, .fieldAddr 11 (.t i20)⟩⟩, ⟨3, (.r 0), ⟨(some i22), none, .load none (.t i21)⟩⟩, ⟨4, .v, ⟨(some i23), none, .move (.t i1)⟩⟩, ⟨5, .v, ⟨(some i24), none, .nilCheck (.t i23)⟩⟩, ⟨6, .v, ⟨(some i25), none, .fieldAddr 9 (.t i24)⟩⟩, ⟨7, (.r 0), ⟨(some i26), none, .load none (.t i25)⟩⟩, ⟨8, .v, ⟨(some i27), none, .fieldAddr 0 (.t i5)⟩⟩, ⟨9, (.r 0), ⟨(some i28), none, .load none (.t i27)⟩⟩, ⟨10, .v, ⟨(some i29), none, .fieldAddr 1 (.t i5)⟩⟩, ⟨11, (.r 0), ⟨(some i30), none, .load none (.t i29)⟩⟩, ⟨12, .v, ⟨(some i31), none, .fieldAddr 3 (.t i5)⟩⟩, ⟨13, (.r 0), ⟨(some i32), none, .load none (.t i31)⟩⟩, ⟨14, .v, ⟨(some i33), none, .move (.t i1)⟩⟩, ⟨15, .v, ⟨(some i34), none, .nilCheck (.t i33)⟩⟩, ⟨16, .v, ⟨(some i35), none, .fieldAddr 24 (.t i34)⟩⟩, ⟨17, (.r 0), ⟨(some i36), none, .load none (.t i35)⟩⟩, ⟨18, .v, ⟨(some i37), none, .build [(.int .i64 (.ofNat 0)), (.int .i64 (.ofNat 0)), (.bool false), (.int .i64 (.ofNat 0)), (.int .u64 (.ofNat 0))] [(0, 1, (.t i26)), (1, 1, (.t i28)), (2, 1, (.t i30)), (3, 1, (.t i32)), (4, 1, (.t i36))]⟩⟩, ⟨19, .e, ⟨(some i38), none, .call i233 [(.t i22), (.t i37)]⟩⟩, ⟨20, .v, ⟨(some i18), none, .move (.t i38)⟩⟩, ⟨21, .v, ⟨(some i39), none, .extract 0 (.t i18)⟩⟩, ⟨22, .v, ⟨(some i40), none, .extract 1 (.t i18)⟩⟩, ⟨23, .v, ⟨(some i6), none, .move (.t i39)⟩⟩, ⟨24, .v, ⟨(some i7), none, .move (.t i40)⟩⟩])
  (.seq (.drawn [⟨0, .v, ⟨(some i41), none, .move (.t i0)⟩⟩, ⟨1, .v, ⟨(some i42), none, .nilCheck (.t i41)⟩⟩, ⟨2, .v, ⟨(some i43), none, .fieldAddr 12 (.t i42)⟩⟩, ⟨3, (.r 0), ⟨(some i44), none, .load none (.t i43)⟩⟩, ⟨4, .v, ⟨(some i45), none, .move (.t i1)⟩⟩, ⟨5, .v, ⟨(some i46), none, .nilCheck (.t i45)⟩⟩, ⟨6, .v, ⟨(some i47), none, .fieldAddr 9 (.t i46)⟩⟩, ⟨7, (.r 0), ⟨(some i48), none, .load none (.t i47)⟩⟩, ⟨8, .v, ⟨(some i49), none, .move (.t i6)⟩⟩, ⟨9, .e, ⟨(some i50), none, .call i234 [(.t i44), (.t i48), (.t i49)]⟩⟩])
  (.seq (.drawn [⟨0, .v, ⟨(some i51), none, .move (.t i0)⟩⟩, ⟨1, .v, ⟨(some i52), none, .nilCheck (.t i51)⟩⟩, ⟨2, .v, ⟨(some i53), none, .fieldAddr 10 (.t i52)⟩⟩, ⟨3, (.r 0), ⟨(some i54), none, .load none (.t i53)⟩⟩, ⟨4, .v, ⟨(some i55), none, .fieldAddr 2 (.t i5)⟩⟩, ⟨5, (.r 0), ⟨(some i56), none, .load none (.t i55)⟩⟩, ⟨6, .v, ⟨(some i57), none, .indexSl 1 (.t i54) (.t i56)⟩⟩, ⟨7, (.r 0), ⟨(some i58), none, .load none (.t i57)⟩⟩, ⟨8, .v, ⟨(some i59), none, .fieldAddr 1 (.t i5)⟩⟩, ⟨9, (.r 0), ⟨(some i60), none, .load none (.t i59)⟩⟩, ⟨10, .v, ⟨(some i61), none, .move (.t i6)⟩⟩, ⟨11, .e, ⟨(some i62), none, .call i235 [(.t i58), (.t i60), (.t i61)]⟩⟩])
  (.seq (.seq (.region [⟨(some i63), none, .move (.t i1)⟩, ⟨(some i64), none, .nilCheck (.t i63)⟩, ⟨(some i65), none, .fieldAddr 17 (.t i64)⟩, ⟨(some i66), none, .load none (.t i65)⟩, ⟨(some i67), none, .bin .add (.t i66) (.c (.int .i64 (.ofNat 1)))⟩, ⟨(some i68), none, .nilCheck (.t i63)⟩, ⟨(some i69), none, .fieldAddr 17 (.t i68)⟩, ⟨none, none, .store none (.t i69) (.t i67)⟩])
  (.seq (.region [⟨(some i70), none, .move (.t i1)⟩, ⟨(some i71), none, .nilCheck (.t i70)⟩, ⟨(some i72), none, .fieldAddr 17 (.t i71)⟩, ⟨(some i73), none, .load none (.t i72)⟩, ⟨(some i74), none, .move (.t i4)⟩, ⟨(some i75), none, .lenSl (.t i74)⟩, ⟨(some i76), none, .bin .lss (.t i73) (.t i75)⟩])
  (.cond (.t i76) .ret
  .skip)))
  (.seq (.region [⟨(some i77), none, .move (.t i0)⟩, ⟨(some i78), none, .move (.t i1)⟩, ⟨(some i79), none, .call i164 [(.t i77), (.t i78)]⟩])
  (.region [⟨(some i80), none, .move (.t i1)⟩, ⟨(some i81), none, .call i79 [(.t i80), (.c (.fn i165 [] []))]⟩]))))))))⟩
theorem tr195 : trFunc (tyIn Tryz.prog tyn) ibn Tryz.f195 = some af195 := by kernel_rfl
theorem nm195 : (Tryz.f195.name == "runtime.NumGoroutine") = false := by kernel_rfl
theorem good195 : GoodAt Tryz.prog tyn ibn i195 af195 := goodAt Tryz.func195 tr195 nm195 rfl
def af196 : AFunc := ⟨[], (.seq (.region [⟨(some i4), none, .move (.t i0)⟩, ⟨(some i5), none, .nilCheck (.t i4)⟩, ⟨(some i6), none, .fieldAddr 0 (.t i5)⟩, ⟨(some i7), none, .load none (.t i6)⟩, ⟨(some i8), none, .call i8 [(.t i7)]⟩])
  (.seq (.region [⟨(some i9), none, .move (.t i0)⟩, ⟨(some i10), none, .move (.t i1)⟩, ⟨(some i11), none, .call i172 [(.t i9), (.t i10)]⟩])
  (.region [⟨(some i12), none, .move (.t i1)⟩, ⟨(some i13), none, .call i79 [(.t i12), (.c (.fn i45 [] []))]⟩])))⟩
theorem tr196 : trFunc (tyIn Tryz.prog tyn) ibn Tryz.f196 = some af196 := by kernel_rfl
theorem nm196 : (Tryz.f196.name == "runtime.NumGoroutine") = false := by kernel_rfl
theorem good196 : GoodAt Tryz.prog tyn ibn i196 af196 := goodAt Tryz.func196 tr196 nm196 rfl
def af197 : AFunc := ⟨[.tmp i2], (.seq (.region [⟨(some i2), none, .move (.c (.int .i64 (.ofNat 0)))⟩])
  (.seq (.block 0 (.seq (.region [⟨(some i4), none, .move (.t i0)⟩, ⟨(some i5), none, .bin (.eq .ptr) (.t i4) (.c .nilptr)⟩, ⟨(some i3), none, .move (.t i5)⟩])
  (.cond (.t i3) (.seq (.region [⟨(some i2), none, .move (.c (.int .i64 (.ofNat 1)))⟩])
  .ret)
  (.seq (.region [⟨(some i7), none, .move (.t i0)⟩, ⟨(some i8), none, .nilCheck (.t i7)⟩, ⟨(some i9), none, .fieldAddr 3 (.t i8)⟩, ⟨(some i10), none, .load none (.t i9)⟩, ⟨(some i6), none, .move (.t i10)⟩])
  (.cond (.t i6) (.seq (.region [⟨(some i2), none, .move (.c (.int .i64 (.ofNat 9)))⟩])
  .ret)
  .skip)))))
  (.seq (.region [⟨(some i11), none, .move (.t i0)⟩, ⟨(some i12), none, .nilCheck (.t i11)⟩, ⟨(some i13), none, .fieldAddr 3 (.t i12)⟩, ⟨none, none, .store none (.t i13) (.c (.bool true))⟩])
  (.seq (.region [⟨(some i2), none, .move (.c (.int .i64 (.ofNat 0)))⟩])
  .ret))))⟩
theorem tr197 : trFunc (tyIn Tryz.prog tyn) ibn Tryz.f197 = some af197 := by kernel_rfl
theorem nm197 : (Tryz.f197.name == "runtime.NumGoroutine") = false := by kernel_rfl
theorem good197 : GoodAt Tryz.prog tyn ibn i197 af197 := goodAt Tryz.func197 tr197 nm197 rfl
def af198 : AFunc := ⟨[], (.seq (.region [⟨(some i8), none, .move (.t i0)⟩, ⟨(some i9), none, .move (.t i1)⟩, ⟨(some i10), none, .call i162 [(.t i8), (.t i9)]⟩, ⟨(some i11), none, .call i236 [(.t i10)]⟩, ⟨(some i7), none, .move (.t i11)⟩, ⟨(some i12), none, .extract 0 (.t i7)⟩, ⟨(some i13), none, .extract 1 (.t i7)⟩, ⟨(some i14), none, .extract 2 (.t i7)⟩, ⟨(some i4), none, .move (.t i12)⟩, ⟨(some i5), none, .move (.t i13)⟩, ⟨(some i6), none, .move (.t i14)⟩])
  (.seq (.seq (.region [⟨(some i15), none, .move (.t i6)⟩, ⟨(some i16), none, .not (.t i15)⟩])
  (.cond (.t i16) (.seq (.region [⟨(some i17), none, .move (.t i1)⟩, ⟨(some i18), none, .call i79 [(.t i17), (.c (.fn i154 [] []))]⟩])
  .ret)
  .skip))
  (.region [⟨(some i19), none, .move (.t i1)⟩, ⟨(some i20), none, .move (.t i1)⟩, ⟨(some i21), none, .move (.t i4)⟩, ⟨(some i22), none, .nilCheck (.t i19)⟩, ⟨(some i23), none, .fieldAddr 18 (.t i22)⟩, ⟨none, none, .store none (.t i23) (.t i21)⟩, ⟨(some i24), none, .nilCheck (.t i20)⟩, ⟨(some i25), none, .fieldAddr 1 (.t i24)⟩, ⟨none, none, .store none (.t i25) (.c (.fn i237 [] []))⟩])))⟩
theorem tr198 : trFunc (tyIn Tryz.prog tyn) ibn Tryz.f198 = some af198 := by kernel_rfl
theorem nm198 : (Tryz.f198.name == "runtime.NumGoroutine") = false := by kernel_rfl
theorem good198 : GoodAt Tryz.prog tyn ibn i198 af198 := goodAt Tryz.func198 tr198 nm198 rfl
def af199 : AFunc := ⟨[], (.seq (.region [⟨(some i4), none, .move (.t i0)⟩, ⟨(some i5), none, .move (.t i1)⟩, ⟨(some i6), none, .nilCheck (.t i5)⟩, ⟨(some i7), none, .fieldAddr 9 (.t i6)⟩, ⟨(some i8), none, .load none (.t i7)⟩, ⟨(some i9), none, .build [(.int .i64 (.ofNat 0)), (.int .u8 (.ofNat 0)), (.int .i64 (.ofNat 0)), (.int .i64 (.ofNat 0)), (.int .i64 (.ofNat 0)), (.int .i64 (.ofNat 0)), (.int .i64 (.ofNat 0)), (.int .i64 (.ofNat 0)), (.int .i64 (.ofNat 0)), (.int .i64 (.ofNat 0)), (.bool false), (.int .i64 (.ofNat 0)), (.int .u64 (.ofNat 0))] [(1, 1, (.c (.int .u8 (.ofNat 7)))), (3, 1, (.t i8))]⟩, ⟨(some i10), none, .call i93 [(.t i4), (.t i9)]⟩])
  (.drawn [⟨0, .v, ⟨(some i11), none, .move (.t i1)⟩⟩, ⟨1, .v, ⟨(some i12), none, .move (.t i0)⟩⟩, ⟨2, .v, ⟨(some i13), none, .nilCheck (.t i12)⟩⟩, ⟨3, .v, ⟨(some i14), none, .fieldAddr 1 (.t i13)⟩⟩, ⟨4, .v, ⟨(some i15), none, .fieldAddr 2 (.t i14)⟩⟩, ⟨5, (.r 0), ⟨(some i16), none, .load none (.t i15)⟩⟩, ⟨6, .v, ⟨(some i17), none, .move (.t i1)⟩⟩, ⟨7, .v, ⟨(some i18), none, .nilCheck (.t i17)⟩⟩, ⟨8, .v, ⟨(some i19), none, .fieldAddr 15 (.t i18)⟩⟩, ⟨9, (.r 0), ⟨(some i20), none, .load none (.t i19)⟩⟩, ⟨10, .v, ⟨(some i21), none, .indexSl 2 (.t i16) (.t i20)⟩⟩, ⟨11, .v, ⟨(some i22), none, .fieldAddr 0 (.t i21)⟩⟩, ⟨12, (.r 0), ⟨(some i23), none, .load none (.t i22)⟩⟩, ⟨13, .v, ⟨(some i24), none, .lenSl (.t i23)⟩⟩, ⟨14, .e, ⟨(some i25), none, .call i171 [(.t i11), (.t i24), (.c (.int .i64 (.ofNat 0))), (.c (.bool false))]⟩⟩]))⟩
theorem tr199 : trFunc (tyIn Tryz.prog tyn) ibn Tryz.f199 = some af199 := by kernel_rfl
theorem nm199 : (Tryz.f199.name == "runtime.NumGoroutine") = false := by kernel_rfl
theorem good199 : GoodAt Tryz.prog tyn ibn i199 af199 := goodAt Tryz.func199 tr199 nm199 rfl
def af200 : AFunc := ⟨[], (.seq (.drawn [⟨0, .v, ⟨(some i7), none, .move (.t i0)⟩⟩, ⟨1, .v, ⟨(some i8), none, .nilCheck (.t i7)⟩⟩, ⟨2, .v, ⟨(some i9), none, .fieldAddr 1 (.t i8)⟩⟩, ⟨3, .v, ⟨(some i10), none, .fieldAddr 2 (.t i9)⟩⟩, ⟨4, (.r 0), ⟨(some i11), none, .load none (.t i10)⟩⟩, ⟨5, .v, ⟨(some i12), none, .move (.t i1)⟩⟩, ⟨6, .v, ⟨(some i13), none, .nilCheck (.t i12)⟩⟩, ⟨7, .v, ⟨(some i14), none, .fieldAddr 15 (.t i13)⟩⟩, ⟨8, (.r 0), ⟨(some i15), none, .load none (.t i14)⟩⟩, ⟨9, .v, ⟨(some i16), none, .indexSl 2 (.t i11) (.t i15)⟩⟩, ⟨10, .v, ⟨(some i17), none, .fieldAddr 0 (.t i16)⟩⟩, ⟨11, (.r 0), ⟨(some i18), none, .load none (.t i17)⟩⟩, ⟨12, .v, ⟨(some i19), none, .move (.t i2)⟩⟩, ⟨13, .v, ⟨(some i20), none, .indexSl 4 (.t i18) (.t i19)⟩⟩, ⟨14, (.r 0), ⟨(some i21), none, .load (some 4) (.t i20)⟩⟩, ⟨15, .a, ⟨(some i6), none, .alloc [(.bool false), (.int .i64 (.ofNat 0)), (.int .i64 (.ofNat 0)), (.int .i64 (.ofNat 0))]⟩⟩, ⟨16, .e, ⟨none, none, .store (some 4) (.t i6) (.t i21)⟩⟩])
  (.seq (.region [⟨(some i22), none, .move (.t i1)⟩, ⟨(some i23), none, .move (.t i2)⟩, ⟨(some i24), none, .fieldAddr 0 (.t i6)⟩, ⟨(some i25), none, .load none (.t i24)⟩, ⟨(some i26), none, .fieldAddr 1 (.t i6)⟩, ⟨(some i27), none, .load none (.t i26)⟩, ⟨(some i28), none, .build [(.int .i64 (.ofNat 0)), (.bool false), (.int .i64 (.ofNat 0)), (.int .i64 (.ofNat 0))] [(0, 1, (.t i23)), (1, 1, (.t i25)), (2, 1, (.t i27))]⟩, ⟨(some i29), none, .nilCheck (.t i22)⟩, ⟨(some i30), none, .fieldAddr 11 (.t i29)⟩, ⟨none, none, .store (some 4) (.t i30) (.t i28)⟩])
  (.seq (.region [⟨(some i31), none, .fieldAddr 0 (.t i6)⟩, ⟨(some i32), none, .load none (.t i31)⟩])
  (.cond (.t i32) (.drawn [⟨1, .v, ⟨(some i34), none, .move (.t i0)⟩⟩, ⟨2, .v, ⟨(some i35), none, .move (.t i1)⟩⟩, ⟨3, .e, ⟨(some i36), none, .call i95 [(.t i34), (.t i35)]⟩⟩, ⟨0, .v, ⟨(some i33), none, .move (.t i1)⟩⟩, ⟨4, .v, ⟨(some i37), none, .field 2 (some 8) (.t i36)⟩⟩, ⟨5, .v, ⟨(some i38), none, .fieldAddr 2 (.t i6)⟩⟩, ⟨6, (.r 1), ⟨(some i39), none, .load none (.t i38)⟩⟩, ⟨7, .v, ⟨(some i40), none, .index 8 1 none (.t i37) (.t i39)⟩⟩, ⟨8, .v, ⟨(some i41), none, .nilCheck (.t i33)⟩⟩, ⟨9, .v, ⟨(some i42), none, .fieldAddr 11 (.t i41)⟩⟩, ⟨10, .v, ⟨(some i43), none, .fieldAddr 3 (.t i42)⟩⟩, ⟨11, .e, ⟨none, none, .store none (.t i43) (.t i40)⟩⟩])
  .skip))))⟩
theorem tr200 : trFunc (tyIn Tryz.prog tyn) ibn Tryz.f200 = some af200 := by kernel_rfl
theorem nm200 : (Tryz.f200.name == "runtime.NumGoroutine") = false := by kernel_rfl
theorem good200 : GoodAt Tryz.prog tyn ibn i200 af200 := goodAt Tryz.func200 tr200 nm200 rfl
def af201 : AFunc := ⟨[.cell i4 none], (.seq (.region [⟨(some i2), none, .box (.t i0)⟩, ⟨(some i4), none, .alloc [(.int .u64 (.ofNat 0))]⟩])
  (.seq (.region [⟨(some i5), none, .load none (.t i2)⟩, ⟨(some i6), none, .move (.t i1)⟩, ⟨(some i7), none, .mkfn i238 [] [(.t i2), (.t i4)]⟩, ⟨(some i8), none, .call i228 [(.t i5), (.t i6), (.t i7)]⟩])
  (.seq (.region [⟨(some i9), none, .load none (.t i4)⟩, ⟨none, none, .store none (.t i4) (.t i9)⟩])
  .ret)))⟩
theorem tr201 : trFunc (tyIn Tryz.prog tyn) ibn Tryz.f201 = some af201 := by kernel_rfl
theorem nm201 : (Tryz.f201.name == "runtime.NumGoroutine") = false := by kernel_rfl
theorem good201 : GoodAt Tryz.prog tyn ibn i201 af201 := goodAt Tryz.func201 tr201 nm201 rfl
def af202 : AFunc := ⟨[], (.seq (.drawn [⟨0, .v, ⟨(some i4), none, .move (.t i0)⟩⟩, ⟨1, .v, ⟨(some i5), none, .move (.t i1)⟩⟩, ⟨2, .e, ⟨(some i6), none, .call i162 [(.t i4), (.t i5)]⟩⟩, ⟨3, .v, ⟨(some i7), none, .move (.t i1)⟩⟩, ⟨4, .v, ⟨(some i8), none, .nilCheck (.t i7)⟩⟩, ⟨5, .v, ⟨(some i9), none, .fieldAddr 19 (.t i8)⟩⟩, ⟨6, .v, ⟨(some i10), none, .fieldAddr 2 (.t i9)⟩⟩, ⟨7, (.r 1), ⟨(some i11), none, .load none (.t i10)⟩⟩, ⟨8, .v, ⟨(some i12), none, .move (.t i1)⟩⟩, ⟨9, .v, ⟨(some i13), none, .nilCheck (.t i12)⟩⟩, ⟨10, .v, ⟨(some i14), none, .fieldAddr 18 (.t i13)⟩⟩, ⟨11, (.r 1), ⟨(some i15), none, .load none (.t i14)⟩⟩, ⟨12, .e, ⟨(some i16), none, .call i153 [(.t i6), (.t i11), (.t i15)]⟩⟩])
  (.region [⟨(some i17), none, .move (.t i1)⟩, ⟨(some i18), none, .move (.t i1)⟩, ⟨(some i19), none, .nilCheck (.t i18)⟩, ⟨(some i20), none, .fieldAddr 25 (.t i19)⟩, ⟨(some i21), none, .load none (.t i20)⟩, ⟨(some i22), none, .nilCheck (.t i17)⟩, ⟨(some i23), none, .fieldAddr 1 (.t i22)⟩, ⟨none, none, .store none (.t i23) (.t i21)⟩]))⟩
theorem tr202 : trFunc (tyIn Tryz.prog tyn) ibn Tryz.f202 = some af202 := by kernel_rfl
theorem nm202 : (Tryz.f202.name == "runtime.NumGoroutine") = false := by kernel_rfl
theorem good202 : GoodAt Tryz.prog tyn ibn i202 af202 := goodAt Tryz.func202 tr202 nm202 rfl
def af203 : AFunc := ⟨[.tmp i4], (.seq (.region [⟨(some i4), none, .move (.c (.int .u64 (.ofNat 0)))⟩])
  (.seq (.region [⟨(some i5), none, .move (.t i0)⟩, ⟨(some i6), none, .move (.t i1)⟩, ⟨(some i7), none, .call i239 [(.t i6)]⟩, ⟨(some i8), none, .bin .or (.t i5) (.t i7)⟩, ⟨(some i4), none, .move (.t i8)⟩])
  .ret))⟩
theorem tr203 : trFunc (tyIn Tryz.prog tyn) ibn Tryz.f203 = some af203 := by kernel_rfl
theorem nm203 : (Tryz.f203.name == "runtime.NumGoroutine") = false := by kernel_rfl
theorem good203 : GoodAt Tryz.prog tyn ibn i203 af203 := goodAt Tryz.func203 tr203 nm203 rfl
def af204 : AFunc := ⟨[], (.seq (.region [⟨(some i6), none, .move (.t i1)⟩, ⟨(some i7), none, .nilCheck (.t i6)⟩, ⟨(some i8), none, .fieldAddr 25 (.t i7)⟩, ⟨none, none, .store none (.t i8) (.c (.fn i204 [] []))⟩])
  (.seq (.drawn [⟨0, .v, ⟨(some i10), none, .move (.t i0)⟩⟩, ⟨1, .v, ⟨(some i11), none, .nilCheck (.t i10)⟩⟩, ⟨2, .v, ⟨(some i12), none, .fieldAddr 12 (.t i11)⟩⟩, ⟨3, (.r 0), ⟨(some i13), none, .load none (.t i12)⟩⟩, ⟨4, .v, ⟨(some i14), none, .move (.t i1)⟩⟩, ⟨5, .v, ⟨(some i15), none, .nilCheck (.t i14)⟩⟩, ⟨6, .v, ⟨(some i16), none, .fieldAddr 9 (.t i15)⟩⟩, ⟨7, (.r 0), ⟨(some i17), none, .load none (.t i16)⟩⟩, ⟨8, .v, ⟨(some i18), none, .move (.t i1)⟩⟩, ⟨9, .v, ⟨(some i19), none, .nilCheck (.t i18)⟩⟩, ⟨10, .v, ⟨(some i20), none, .fieldAddr 15 (.t i19)⟩⟩, ⟨11, (.r 0), ⟨(some i21), none, .load none (.t i20)⟩⟩, ⟨12, .v, ⟨(some i22), none, .move (.t i1)⟩⟩, ⟨13, .v, ⟨(some i23), none, .nilCheck (.t i22)⟩⟩, ⟨14, .v, ⟨(some i24), none, .fieldAddr 16 (.t i23)⟩⟩, ⟨15, (.r 0), ⟨(some i25), none, .load none (.t i24)⟩⟩, ⟨16, .e, ⟨(some i26), none, .call i240 [(.t i13), (.t i17), (.t i21), (.t i25)]⟩⟩, ⟨17, .v, ⟨(some i9), none, .move (.t i26)⟩⟩, ⟨18, .v, ⟨(some i27), none, .extract 0 (.t i9)⟩⟩, ⟨19, .v, ⟨(some i28), none, .extract 1 (.t i9)⟩⟩, ⟨20, .v, ⟨(some i4), none, .move (.t i27)⟩⟩, ⟨21, .v, ⟨(some i5), none, .move (.t i28)⟩⟩])
  (.block 0 (.seq (.region [⟨(some i33), none, .move (.t i5)⟩, ⟨(some i32), none, .move (.t i33)⟩])
  (.cond (.t i32) (.seq (.region [⟨(some i34), none, .move (.t i0)⟩, ⟨(some i35), none, .move (.t i1)⟩, ⟨(some i36), none, .move (.t i4)⟩, ⟨(some i37), none, .call i200 [(.t i34), (.t i35), (.t i36)]⟩])
  (.seq (.drawn [⟨2, .v, ⟨(some i40), none, .move (.t i0)⟩⟩, ⟨3, .v, ⟨(some i41), none, .move (.t i1)⟩⟩, ⟨4, .e, ⟨(some i42), none, .call i162 [(.t i40), (.t i41)]⟩⟩, ⟨5, .v, ⟨(some i43), none, .move (.t i1)⟩⟩, ⟨6, .v, ⟨(some i44), none, .nilCheck (.t i43)⟩⟩, ⟨7, .v, ⟨(some i45), none, .fieldAddr 11 (.t i44)⟩⟩, ⟨8, .v, ⟨(some i46), none, .fieldAddr 1 (.t i45)⟩⟩, ⟨9, (.r 1), ⟨(some i47), none, .load none (.t i46)⟩⟩, ⟨10, .e, ⟨(some i48), none, .call i161 [(.t i42), (.t i47)]⟩⟩, ⟨0, .v, ⟨(some i38), none, .move (.t i0)⟩⟩, ⟨1, .v, ⟨(some i39), none, .move (.t i1)⟩⟩, ⟨11, .e, ⟨(some i49), none, .call i160 [(.t i38), (.t i39), (.t i48)]⟩⟩, ⟨12, .v, ⟨(some i50), none, .not (.t i49)⟩⟩])
  (.cond (.t i50) (.seq (.region [⟨(some i51), none, .move (.t i1)⟩, ⟨(some i52), none, .move (.t i1)⟩, ⟨(some i53), none, .nilCheck (.t i52)⟩, ⟨(some i54), none, .fieldAddr 16 (.t i53)⟩, ⟨(some i55), none, .load none (.t i54)⟩, ⟨(some i56), none, .move (.t i4)⟩, ⟨(some i57), none, .call i241 [(.t i55), (.t i56)]⟩, ⟨(some i58), none, .nilCheck (.t i51)⟩, ⟨(some i59), none, .fieldAddr 16 (.t i58)⟩, ⟨none, none, .store none (.t i59) (.t i57)⟩])
  (.region [⟨(some i60), none, .move (.t i1)⟩, ⟨(some i61), none, .nilCheck (.t i60)⟩, ⟨(some i62), none, .fieldAddr 1 (.t i61)⟩, ⟨none, none, .store none (.t i62) (.c (.fn i204 [] []))⟩]))
  .skip)))
  (.seq (.drawn [⟨0, .v, ⟨(some i64), none, .move (.t i0)⟩⟩, ⟨1, .v, ⟨(some i65), none, .nilCheck (.t i64)⟩⟩, ⟨2, .v, ⟨(some i66), none, .fieldAddr 1 (.t i65)⟩⟩, ⟨3, .v, ⟨(some i67), none, .fieldAddr 2 (.t i66)⟩⟩, ⟨4, (.r 0), ⟨(some i68), none, .load none (.t i67)⟩⟩, ⟨5, .v, ⟨(some i69), none, .move (.t i1)⟩⟩, ⟨6, .v, ⟨(some i70), none, .nilCheck (.t i69)⟩⟩, ⟨7, .v, ⟨(some i71), none, .fieldAddr 15 (.t i70)⟩⟩, ⟨8, (.r 0), ⟨(some i72), none, .load none (.t i71)⟩⟩, ⟨9, .v, ⟨(some i73), none, .indexSl 2 (.t i68) (.t i72)⟩⟩, ⟨10, .v, ⟨(some i74), none, .fieldAddr 1 (.t i73)⟩⟩, ⟨11, (.r 0), ⟨(some i75), none, .load none (.t i74)⟩⟩, ⟨12, .v, ⟨(some i63), none, .move (.t i75)⟩⟩])
  (.cond (.t i63) (.seq (.region [⟨(some i76), none, .move (.t i0)⟩, ⟨(some i77), none, .move (.t i1)⟩, ⟨(some i78), none, .call i199 [(.t i76), (.t i77)]⟩])
  (.region [⟨(some i79), none, .move (.t i1)⟩, ⟨(some i80), none, .call i79 [(.t i79), (.c (.fn i154 [] []))]⟩]))
  (.region [⟨(some i29), none, .move (.t i1)⟩, ⟨(some i30), none, .nilCheck (.t i29)⟩, ⟨(some i31), none, .fieldAddr 1 (.t i30)⟩, ⟨none, none, .store none (.t i31) (.c (.fn i163 [] []))⟩]))))))))⟩
theorem tr204 : trFunc (tyIn Tryz.prog tyn) ibn Tryz.f204 = some af204 := by kernel_rfl
theorem nm204 : (Tryz.f204.name == "runtime.NumGoroutine") = false := by kernel_rfl
theorem good204 : GoodAt Tryz.prog tyn ibn i204 af204 := goodAt Tryz.func204 tr204 nm204 rfl
def af205 : AFunc := ⟨[.tmp i4], (.seq (.region [⟨(some i4), none, .move (.c (.int .i64 (.ofNat 0)))⟩])
  (.seq (.seq (.region [⟨(some i6), none, .move (.t i0)⟩, ⟨(some i7), none, .lenSl (.t i6)⟩, ⟨(some i8), none, .move (.c (.int .i64 (.ofNat 0)))⟩])
  (.block 0 (.loop (.seq (.region [⟨(some i9), none, .bin .lss (.t i8) (.t i7)⟩])
  (.seq (.cond (.t i9) .skip
  (.exit 0))
  (.seq (.block 1 (.seq (.region [⟨(some i10), none, .move (.t i8)⟩, ⟨(some i5), none, .move (.t i10)⟩])
  (.seq (.region [⟨(some i11), none, .move (.t i1)⟩, ⟨(some i12), none, .move (.t i0)⟩, ⟨(some i13), none, .move (.t i5)⟩, ⟨(some i14), none, .indexSl 1 (.t i12) (.t i13)⟩, ⟨(some i15), none, .load none (.t i14)⟩, ⟨(some i16), none, .bin (.eq .str) (.t i11) (.t i15)⟩])
  (.cond (.t i16) (.seq (.region [⟨(some i17), none, .move (.t i5)⟩, ⟨(some i4), none, .move (.t i17)⟩])
  .ret)
  .skip))))
  (.region [⟨(some i18), none, .bin .add (.t i8) (.c (.int .i64 (.ofNat 1)))⟩, ⟨(some i8), none, .move (.t i18)⟩])))))))
  (.seq (.region [⟨(some i4), none, .move (.c (.int .i64 (.negSucc 0)))⟩])
  .ret)))⟩
theorem tr205 : trFunc (tyIn Tryz.prog tyn) ibn Tryz.f205 = some af205 := by kernel_rfl
theorem nm205 : (Tryz.f205.name == "runtime.NumGoroutine") = false := by kernel_rfl
theorem good205 : GoodAt Tryz.prog tyn ibn i205 af205 := goodAt Tryz.func205 tr205 nm205 rfl
def af206 : AFunc := ⟨[], (.region [⟨(some i3), none, .move (.t i0)⟩, ⟨(some i4), none, .load none (.t i1)⟩, ⟨(some i5), none, .nilCheck (.t i4)⟩, ⟨(some i6), none, .fieldAddr 2 (.t i5)⟩, ⟨(some i7), none, .callv (.t i3) [(.c (.str [119, 111, 114, 107, 101, 114])), (.t i6)]⟩, ⟨(some i8), none, .move (.t i7)⟩, ⟨(some i9), (some (i8, true)), .move (.t i0)⟩, ⟨(some i10), (some (i8, true)), .load none (.t i1)⟩, ⟨(some i11), (some (i8, true)), .nilCheck (.t i10)⟩, ⟨(some i12), (some (i8, true)), .fieldAddr 3 (.t i11)⟩, ⟨(some i13), (some (i8, true)), .callv (.t i9) [(.c (.str [116, 97, 115, 107])), (.t i12)]⟩, ⟨(some i14), none, .pick (.t i8) (.t i13) (.c (.bool false))⟩, ⟨(some i15), none, .move (.t i14)⟩, ⟨(some i16), (some (i15, true)), .move (.t i0)⟩, ⟨(some i17), (some (i15, true)), .load none (.t i1)⟩, ⟨(some i18), (some (i15, true)), .nilCheck (.t i17)⟩, ⟨(some i19), (some (i15, true)), .fieldAddr 4 (.t i18)⟩, ⟨(some i20), (some (i15, true)), .callv (.t i16) [(.c (.str [112, 101, 101, 114])), (.t i19)]⟩, ⟨(some i21), none, .pick (.t i15) (.t i20) (.c (.bool false))⟩, ⟨(some i22), none, .move (.t i21)⟩, ⟨(some i23), (some (i22, true)), .move (.t i0)⟩, ⟨(some i24), (some (i22, true)), .load none (.t i1)⟩, ⟨(some i25), (some (i22, true)), .nilCheck (.t i24)⟩, ⟨(some i26), (some (i22, true)), .fieldAddr 5 (.t i25)⟩, ⟨(some i27), (some (i22, true)), .callv (.t i23) [(.c (.str [99, 104])), (.t i26)]⟩, ⟨(some i28), none, .pick (.t i22) (.t i27) (.c (.bool false))⟩, ⟨(some i29), none, .move (.t i28)⟩, ⟨(some i30), (some (i29, true)), .move (.t i0)⟩, ⟨(some i31), (some (i29, true)), .load none (.t i1)⟩, ⟨(some i32), (some (i29, true)), .nilCheck (.t i31)⟩, ⟨(some i33), (some (i29, true)), .fieldAddr 6 (.t i32)⟩, ⟨(some i34), (some (i29, true)), .callv (.t i30) [(.c (.str [99, 97, 115, 101])), (.t i33)]⟩, ⟨(some i35), none, .pick (.t i29) (.t i34) (.c (.bool false))⟩, ⟨(some i36), none, .move (.t i35)⟩, ⟨(some i37), (some (i36, true)), .move (.t i0)⟩, ⟨(some i38), (some (i36, true)), .load none (.t i1)⟩, ⟨(some i39), (some (i36, true)), .nilCheck (.t i38)⟩, ⟨(some i40), (some (i36, true)), .fieldAddr 7 (.t i39)⟩, ⟨(some i41), (some (i36, true)), .callv (.t i37) [(.c (.str [112, 101, 101, 114, 99, 97, 115, 101])), (.t i40)]⟩, ⟨(some i42), none, .pick (.t i36) (.t i41) (.c (.bool false))⟩])⟩
theorem tr206 : trFunc (tyIn Tryz.prog tyn) ibn Tryz.f206 = some af206 := by kernel_rfl
theorem nm206 : (Tryz.f206.name == "runtime.NumGoroutine") = false := by kernel_rfl
theorem good206 : GoodAt Tryz.prog tyn ibn i206 af206 := goodAt Tryz.func206 tr206 nm206 rfl
def af207 : AFunc := ⟨[.cell i12 (some 10), .tmp i13], (.seq (.region [⟨(some i6), none, .box (.t i0)⟩, ⟨(some i7), none, .box (.t i1)⟩, ⟨(some i8), none, .box (.t i2)⟩, ⟨(some i12), none, .alloc [(.int .i64 (.ofNat 0)), (.int .i64 (.ofNat 0)), (.int .i64 (.ofNat 0)), (.int .i64 (.ofNat 0)), (.int .i64 (.ofNat 0)), (.int .i64 (.ofNat 0)), (.int .i64 (.ofNat 0)), (.int .i64 (.ofNat 0)), (.int .i64 (.ofNat 0)), (.int .i64 (.ofNat 0))]⟩, ⟨(some i13), none, .move (.c (.int .i64 (.ofNat 0)))⟩])
  (.seq (.region [⟨(some i15), none, .fieldAddr 2 (.t i6)⟩, ⟨(some i16), none, .load none (.t i15)⟩, ⟨(some i17), none, .fieldAddr 4 (.t i8)⟩, ⟨(some i18), none, .load none (.t i17)⟩, ⟨(some i19), none, .indexSl 2 (.t i16) (.t i18)⟩, ⟨(some i20), none, .load (some 2) (.t i19)⟩, ⟨(some i14), none, .alloc [.nilslice, (.bool false)]⟩, ⟨none, none, .store (some 2) (.t i14) (.t i20)⟩])
  (.seq (.seq (.region [⟨(some i21), none, .move (.t i3)⟩, ⟨(some i22), none, .bin .lss (.t i21) (.c (.int .i64 (.ofNat 0)))⟩, ⟨(some i23), none, .move (.t i22)⟩, ⟨(some i24), (some (i23, false)), .move (.t i3)⟩, ⟨(some i25), (some (i23, false)), .fieldAddr 0 (.t i14)⟩, ⟨(some i26), (some (i23, false)), .load none (.t i25)⟩, ⟨(some i27), (some (i23, false)), .lenSl (.t i26)⟩, ⟨(some i28), (some (i23, false)), .bin .gtr (.t i24) (.t i27)⟩, ⟨(some i29), none, .pick (.t i23) (.c (.bool true)) (.t i28)⟩, ⟨(some i30), none, .move (.t i29)⟩, ⟨(some i31), (some (i30, false)), .move (.t i3)⟩, ⟨(some i32), (some (i30, false)), .fieldAddr 0 (.t i14)⟩, ⟨(some i33), (some (i30, false)), .load none (.t i32)⟩, ⟨(some i34), (some (i30, false)), .lenSl (.t i33)⟩, ⟨(some i35), (some (i30, false)), .bin (.eq .int) (.t i31) (.t i34)⟩, ⟨(some i36), (some (i30, false)), .move (.t i35)⟩, ⟨(some i37), (some (i36, true)), .fieldAddr 1 (.t i14)⟩, ⟨(some i38), (some (i36, true)), .load none (.t i37)⟩, ⟨(some i39), (some (i36, true)), .not (.t i38)⟩, ⟨(some i40), (some (i30, false)), .pick (.t i36) (.t i39) (.c (.bool false))⟩, ⟨(some i41), none, .pick (.t i30) (.c (.bool true)) (.t i40)⟩])
  (.cond (.t i41) (.seq (.region [⟨(some i42), none, .build [(.int .i64 (.ofNat 0)), (.int .i64 (.ofNat 0)), (.int .i64 (.ofNat 0)), (.int .i64 (.ofNat 0)), (.int .i64 (.ofNat 0)), (.int .i64 (.ofNat 0)), (.int .i64 (.ofNat 0)), (.int .i64 (.ofNat 0)), (.int .i64 (.ofNat 0)), (.int .i64 (.ofNat 0))] []⟩, ⟨none, none, .store (some 10) (.t i12) (.t i42)⟩, ⟨(some i13), none, .move (.c (.int .i64 (.ofNat 2)))⟩])
  .ret)
  .skip))
  (.seq (.region [⟨(some i43), none, .fieldAddr 1 (.t i7)⟩, ⟨(some i44), none, .load none (.t i43)⟩, ⟨(some i45), none, .bin .add (.t i44) (.c (.int .i64 (.ofNat 1)))⟩, ⟨(some i46), none, .fieldAddr 1 (.t i7)⟩, ⟨none, none, .store none (.t i46) (.t i45)⟩])
  (.seq (.seq (.region [⟨(some i47), none, .move (.t i3)⟩, ⟨(some i48), none, .fieldAddr 0 (.t i14)⟩, ⟨(some i49), none, .load none (.t i48)⟩, ⟨(some i50), none, .lenSl (.t i49)⟩, ⟨(some i51), none, .bin .lss (.t i47) (.t i50)⟩, ⟨(some i52), none, .move (.t i51)⟩, ⟨(some i53), (some (i52, true)), .fieldAddr 0 (.t i14)⟩, ⟨(some i54), (some (i52, true)), .load none (.t i53)⟩, ⟨(some i55), (some (i52, true)), .move (.t i3)⟩, ⟨(some i56), (some (i52, true)), .indexSl 4 (.t i54) (.t i55)⟩, ⟨(some i57), (some (i52, true)), .fieldAddr 0 (.t i56)⟩, ⟨(some i58), (some (i52, true)), .load none (.t i57)⟩, ⟨(some i59), (some (i52, true)), .not (.t i58)⟩, ⟨(some i60), none, .pick (.t i52) (.t i59) (.c (.bool false))⟩])
  (.cond (.t i60) (.seq (.region [⟨(some i61), none, .fieldAddr 0 (.t i14)⟩, ⟨(some i62), none, .load none (.t i61)⟩, ⟨(some i63), none, .move (.t i3)⟩, ⟨(some i64), none, .indexSl 4 (.t i62) (.t i63)⟩, ⟨(some i65), none, .fieldAddr 2 (.t i64)⟩, ⟨(some i66), none, .load none (.t i65)⟩, ⟨(some i67), none, .move (.t i4)⟩, ⟨(some i68), none, .fieldAddr 2 (.t i7)⟩, ⟨(some i69), none, .indexArr 8 1 (.t i68) (.t i66)⟩, ⟨none, none, .store none (.t i69) (.t i67)⟩])
  (.drawn [⟨6, .v, ⟨(some i76), none, .move (.t i5)⟩⟩, ⟨7, .e, ⟨(some i77), none, .call i208 [(.t i76)]⟩⟩, ⟨0, .v, ⟨(some i70), none, .fieldAddr 0 (.t i14)⟩⟩, ⟨1, (.r 1), ⟨(some i71), none, .load none (.t i70)⟩⟩, ⟨2, .v, ⟨(some i72), none, .move (.t i3)⟩⟩, ⟨3, .v, ⟨(some i73), none, .indexSl 4 (.t i71) (.t i72)⟩⟩, ⟨4, .v, ⟨(some i74), none, .fieldAddr 3 (.t i73)⟩⟩, ⟨5, (.r 1), ⟨(some i75), none, .load none (.t i74)⟩⟩, ⟨8, .v, ⟨(some i78), none, .fieldAddr 2 (.t i7)⟩⟩, ⟨9, .v, ⟨(some i79), none, .indexArr 8 1 (.t i78) (.t i75)⟩⟩, ⟨10, .e, ⟨none, none, .store none (.t i79) (.t i77)⟩⟩]))
  .skip))
  (.seq (.region [⟨(some i80), none, .fieldAddr 2 (.t i8)⟩, ⟨(some i81), none, .load none (.t i80)⟩, ⟨(some i82), none, .move (.t i3)⟩, ⟨(some i83), none, .fieldAddr 2 (.t i7)⟩, ⟨(some i84), none, .indexArr 8 1 (.t i83) (.t i81)⟩, ⟨none, none, .store none (.t i84) (.t i82)⟩])
  (.seq (.region [⟨(some i85), none, .load (some 10) (.t i7)⟩, ⟨none, none, .store (some 10) (.t i12) (.t i85)⟩, ⟨(some i13), none, .move (.c (.int .i64 (.ofNat 0)))⟩])
  .ret)))))))⟩
theorem tr207 : trFunc (tyIn Tryz.prog tyn) ibn Tryz.f207 = some af207 := by kernel_rfl
theorem nm207 : (Tryz.f207.name == "runtime.NumGoroutine") = false := by kernel_rfl
theorem good207 : GoodAt Tryz.prog tyn ibn i207 af207 := goodAt Tryz.func207 tr207 nm207 rfl
def af208 : AFunc := ⟨[.tmp i2], (.seq (.region [⟨(some i2), none, .move (.c (.int .i64 (.ofNat 0)))⟩])
  (.seq (.seq (.region [⟨(some i3), none, .move (.t i0)⟩])
  (.cond (.t i3) (.seq (.region [⟨(some i2), none, .move (.c (.int .i64 (.ofNat 1)))⟩])
  .ret)
  .skip))
  (.seq (.region [⟨(some i2), none, .move (.c (.int .i64 (.ofNat 0)))⟩])
  .ret)))⟩
theorem tr208 : trFunc (tyIn Tryz.prog tyn) ibn Tryz.f208 = some af208 := by kernel_rfl
theorem nm208 : (Tryz.f208.name == "runtime.NumGoroutine") = false := by kernel_rfl
theorem good208 : GoodAt Tryz.prog tyn ibn i208 af208 := goodAt Tryz.func208 tr208 nm208 rfl
def af209 : AFunc := ⟨[.tmp i4], (.seq (.region [⟨(some i4), none, .move (.c (.int .i64 (.ofNat 0)))⟩])
  (.seq (.drawn [⟨0, .v, ⟨(some i8), none, .move (.t i0)⟩⟩, ⟨1, .v, ⟨(some i9), none, .nilCheck (.t i8)⟩⟩, ⟨2, .v, ⟨(some i10), none, .fieldAddr 13 (.t i9)⟩⟩, ⟨3, (.r 0), ⟨(some i11), none, .load none (.t i10)⟩⟩, ⟨4, (.r 0), ⟨(some i12), none, .load none (.t i1)⟩⟩, ⟨5, (.r 0), ⟨(some i13), none, .lookup .int .nilptr true (.t i11) (.t i12)⟩⟩, ⟨6, .v, ⟨(some i7), none, .move (.t i13)⟩⟩, ⟨7, .v, ⟨(some i14), none, .extract 0 (.t i7)⟩⟩, ⟨8, .v, ⟨(some i15), none, .extract 1 (.t i7)⟩⟩, ⟨9, .v, ⟨(some i5), none, .move (.t i14)⟩⟩, ⟨10, .v, ⟨(some i6), none, .move (.t i15)⟩⟩])
  (.seq (.seq (.region [⟨(some i16), none, .move (.t i6)⟩, ⟨(some i17), none, .not (.t i16)⟩])
  (.cond (.t i17) (.seq (.region [⟨(some i4), none, .move (.c (.int .i64 (.ofNat 3)))⟩])
  .ret)
  .skip))
  (.seq (.region [⟨(some i18), none, .move (.t i5)⟩, ⟨(some i19), none, .load none (.t i2)⟩, ⟨(some i20), none, .call i210 [(.t i18), (.t i19)]⟩, ⟨(some i4), none, .move (.t i20)⟩])
  .ret))))⟩
theorem tr209 : trFunc (tyIn Tryz.prog tyn) ibn Tryz.f209 = some af209 := by kernel_rfl
theorem nm209 : (Tryz.f209.name == "runtime.NumGoroutine") = false := by kernel_rfl
theorem good209 : GoodAt Tryz.prog tyn ibn i209 af209 := goodAt Tryz.func209 tr209 nm209 rfl
def af210 : AFunc := ⟨[.tmp i4], (.seq (.region [⟨(some i4), none, .move (.c (.int .i64 (.ofNat 0)))⟩])
  (.seq (.seq (.region [⟨(some i7), none, .move (.t i0)⟩, ⟨(some i8), none, .bin (.eq .ptr) (.t i7) (.c .nilptr)⟩])
  (.cond (.t i8) (.seq (.region [⟨(some i4), none, .move (.c (.int .i64 (.ofNat 1)))⟩])
  .ret)
  .skip))
  (.seq (.region [⟨(some i9), none, .move (.t i0)⟩, ⟨(some i10), none, .call i242 [(.t i9)]⟩, ⟨(some i5), none, .move (.t i10)⟩])
  (.seq (.region [⟨(some i11), none, .move (.t i5)⟩, ⟨(some i12), none, .move (.t i1)⟩, ⟨(some i13), none, .call i243 [(.t i11), (.t i12)]⟩, ⟨(some i6), none, .move (.t i13)⟩])
  (.seq (.seq (.region [⟨(some i14), none, .move (.t i6)⟩, ⟨(some i15), none, .bin .lss (.t i14) (.c (.int .i64 (.ofNat 0)))⟩])
  (.cond (.t i15) (.seq (.region [⟨(some i4), none, .move (.c (.int .i64 (.ofNat 2)))⟩])
  .ret)
  .skip))
  (.seq (.drawn [⟨0, .v, ⟨(some i16), none, .move (.t i5)⟩⟩, ⟨1, .v, ⟨(some i17), none, .move (.t i6)⟩⟩, ⟨2, .v, ⟨(some i18), none, .sliceSl 1 (.t i16) (some (.t i17)) none none⟩⟩, ⟨3, .v, ⟨(some i19), none, .move (.t i5)⟩⟩, ⟨4, .v, ⟨(some i20), none, .move (.t i6)⟩⟩, ⟨5, .v, ⟨(some i21), none, .bin .add (.t i20) (.c (.int .i64 (.ofNat 1)))⟩⟩, ⟨6, .v, ⟨(some i22), none, .sliceSl 1 (.t i19) (some (.t i21)) none none⟩⟩, ⟨7, .e, ⟨(some i23), none, .copy 1 (.t i18) (.t i22)⟩⟩])
  (.seq (.region [⟨(some i24), none, .move (.t i5)⟩, ⟨(some i25), none, .move (.t i0)⟩, ⟨(some i26), none, .nilCheck (.t i25)⟩, ⟨(some i27), none, .fieldAddr 6 (.t i26)⟩, ⟨(some i28), none, .load none (.t i27)⟩, ⟨(some i29), none, .bin .sub (.t i28) (.c (.int .i64 (.ofNat 1)))⟩, ⟨(some i30), none, .move (.t i1)⟩, ⟨(some i31), none, .indexSl 1 (.t i24) (.t i29)⟩, ⟨none, none, .store none (.t i31) (.t i30)⟩])
  (.seq (.region [⟨(some i4), none, .move (.c (.int .i64 (.ofNat 0)))⟩])
  .ret))))))))⟩
theorem tr210 : trFunc (tyIn Tryz.prog tyn) ibn Tryz.f210 = some af210 := by kernel_rfl
theorem nm210 : (Tryz.f210.name == "runtime.NumGoroutine") = false := by kernel_rfl
theorem good210 : GoodAt Tryz.prog tyn ibn i210 af210 := goodAt Tryz.func210 tr210 nm210 rfl
def af211 : AFunc := ⟨[.tmp i2], (.seq (.region [⟨(some i2), none, .move (.c .nilptr)⟩])
  (.seq (.seq (.region [⟨(some i3), none, .load none (.t i0)⟩])
  (.cond (.t i3) (.seq (.region [⟨(some i4), none, .load none (.t i1)⟩, ⟨(some i5), none, .nilCheck (.t i4)⟩, ⟨(some i6), none, .fieldAddr 1 (.t i5)⟩, ⟨(some i7), none, .indexArr 2 1 (.t i6) (.c (.int .i64 (.ofNat 1)))⟩, ⟨(some i8), none, .load none (.t i7)⟩, ⟨(some i2), none, .move (.t i8)⟩])
  .ret)
  .skip))
  (.seq (.region [⟨(some i9), none, .load none (.t i1)⟩, ⟨(some i10), none, .nilCheck (.t i9)⟩, ⟨(some i11), none, .fieldAddr 1 (.t i10)⟩, ⟨(some i12), none, .indexArr 2 1 (.t i11) (.c (.int .i64 (.ofNat 0)))⟩, ⟨(some i13), none, .load none (.t i12)⟩, ⟨(some i2), none, .move (.t i13)⟩])
  .ret)))⟩
theorem tr211 : trFunc (tyIn Tryz.prog tyn) ibn Tryz.f211 = some af211 := by kernel_rfl
theorem nm211 : (Tryz.f211.name == "runtime.NumGoroutine") = false := by kernel_rfl
theorem good211 : GoodAt Tryz.prog tyn ibn i211 af211 := goodAt Tryz.func211 tr211 nm211 rfl
def af212 : AFunc := ⟨[], (.seq (.seq (.region [⟨(some i5), none, .move (.t i0)⟩, ⟨(some i6), none, .bin .geq (.t i5) (.c (.int .i64 (.ofNat 0)))⟩])
  (.cond (.t i6) (.drawn [⟨0, (.r 0), ⟨(some i7), none, .load none (.t i2)⟩⟩, ⟨1, .v, ⟨(some i8), none, .nilCheck (.t i7)⟩⟩, ⟨2, .v, ⟨(some i9), none, .fieldAddr 0 (.t i8)⟩⟩, ⟨3, (.r 0), ⟨(some i10), none, .load none (.t i9)⟩⟩, ⟨4, .v, ⟨(some i11), none, .move (.t i0)⟩⟩, ⟨5, (.r 0), ⟨(some i12), none, .load none (.t i2)⟩⟩, ⟨6, .v, ⟨(some i13), none, .nilCheck (.t i12)⟩⟩, ⟨7, .v, ⟨(some i14), none, .fieldAddr 0 (.t i13)⟩⟩, ⟨8, (.r 0), ⟨(some i15), none, .load none (.t i14)⟩⟩, ⟨9, .v, ⟨(some i16), none, .move (.t i0)⟩⟩, ⟨10, (.r 0), ⟨(some i17), none, .lookup .int (.agg [(.int .i64 (.ofNat 0)), (.int .i64 (.ofNat 0))]) false (.t i15) (.t i16)⟩⟩, ⟨11, .v, ⟨(some i18), none, .field 0 none (.t i17)⟩⟩, ⟨12, .v, ⟨(some i19), none, .move (.t i1)⟩⟩, ⟨13, .v, ⟨(some i20), none, .build [(.int .i64 (.ofNat 0)), (.int .i64 (.ofNat 0))] [(0, 1, (.t i18)), (1, 1, (.t i19))]⟩⟩, ⟨14, .e, ⟨none, none, .insert .int (.t i10) (.t i11) (.t i20)⟩⟩])
  .skip))
  (.seq (.region [⟨(some i21), none, .move (.t i1)⟩, ⟨(some i22), none, .bin .geq (.t i21) (.c (.int .i64 (.ofNat 0)))⟩])
  (.cond (.t i22) (.drawn [⟨0, (.r 0), ⟨(some i23), none, .load none (.t i2)⟩⟩, ⟨1, .v, ⟨(some i24), none, .nilCheck (.t i23)⟩⟩, ⟨2, .v, ⟨(some i25), none, .fieldAddr 0 (.t i24)⟩⟩, ⟨3, (.r 0), ⟨(some i26), none, .load none (.t i25)⟩⟩, ⟨4, .v, ⟨(some i27), none, .move (.t i1)⟩⟩, ⟨5, .v, ⟨(some i28), none, .move (.t i0)⟩⟩, ⟨6, (.r 0), ⟨(some i29), none, .load none (.t i2)⟩⟩, ⟨7, .v, ⟨(some i30), none, .nilCheck (.t i29)⟩⟩, ⟨8, .v, ⟨(some i31), none, .fieldAddr 0 (.t i30)⟩⟩, ⟨9, (.r 0), ⟨(some i32), none, .load none (.t i31)⟩⟩, ⟨10, .v, ⟨(some i33), none, .move (.t i1)⟩⟩, ⟨11, (.r 0), ⟨(some i34), none, .lookup .int (.agg [(.int .i64 (.ofNat 0)), (.int .i64 (.ofNat 0))]) false (.t i32) (.t i33)⟩⟩, ⟨12, .v, ⟨(some i35), none, .field 1 none (.t i34)⟩⟩, ⟨13, .v, ⟨(some i36), none, .build [(.int .i64 (.ofNat 0)), (.int .i64 (.ofNat 0))] [(0, 1, (.t i28)), (1, 1, (.t i35))]⟩⟩, ⟨14, .e, ⟨none, none, .insert .int (.t i26) (.t i27) (.t i36)⟩⟩])
  .skip)))⟩
theorem tr212 : trFunc (tyIn Tryz.prog tyn) ibn Tryz.f212 = some af212 := by kernel_rfl
theorem nm212 : (Tryz.f212.name == "runtime.NumGoroutine") = false := by kernel_rfl
theorem good212 : GoodAt Tryz.prog tyn ibn i212 af212 := goodAt Tryz.func212 tr212 nm212 rfl
def af213 : AFunc := ⟨[.tmp i2], (.seq (.region [⟨(some i1), none, .box (.t i0)⟩, ⟨(some i2), none, .move (.c .nilfn)⟩])
  (.seq (.region [⟨(some i3), none, .mkfn i244 [] [(.t i1)]⟩, ⟨(some i2), none, .move (.t i3)⟩])
  .ret))⟩
theorem tr213 : trFunc (tyIn Tryz.prog tyn) ibn Tryz.f213 = some af213 := by kernel_rfl
theorem nm213 : (Tryz.f213.name == "runtime.NumGoroutine") = false := by kernel_rfl
theorem good213 : GoodAt Tryz.prog tyn ibn i213 af213 := goodAt Tryz.func213 tr213 nm213 rfl
def af214 : AFunc := ⟨[.tmp i2], (.seq (.region [⟨(some i2), none, .move (.c .nilslice)⟩])
  (.seq (.region [⟨(some i3), none, .move (.t i0)⟩, ⟨(some i4), none, .call i246 [(.t i3)]⟩, ⟨(some i5), none, .call i245 [(.t i4)]⟩, ⟨(some i2), none, .move (.t i5)⟩])
  .ret))⟩
theorem tr214 : trFunc (tyIn Tryz.prog tyn) ibn Tryz.f214 = some af214 := by kernel_rfl
theorem nm214 : (Tryz.f214.name == "runtime.NumGoroutine") = false := by kernel_rfl
theorem good214 : GoodAt Tryz.prog tyn ibn i214 af214 := goodAt Tryz.func214 tr214 nm214 rfl
def af215 : AFunc := ⟨[.tmp i4], (.seq (.region [⟨(some i4), none, .move (.c (.bool false))⟩])
  (.seq (.drawn [⟨1, .v, ⟨(some i7), none, .move (.t i0)⟩⟩, ⟨2, .v, ⟨(some i8), none, .nilCheck (.t i7)⟩⟩, ⟨3, .v, ⟨(some i9), none, .fieldAddr 11 (.t i8)⟩⟩, ⟨4, (.r 0), ⟨(some i10), none, .load none (.t i9)⟩⟩, ⟨5, .v, ⟨(some i11), none, .move (.t i1)⟩⟩, ⟨6, .v, ⟨(some i12), none, .nilCheck (.t i11)⟩⟩, ⟨7, .v, ⟨(some i13), none, .fieldAddr 18 (.t i12)⟩⟩, ⟨8, (.r 0), ⟨(some i14), none, .load none (.t i13)⟩⟩, ⟨9, .e, ⟨(some i15), none, .call i151 [(.t i10), (.t i14)]⟩⟩, ⟨0, .v, ⟨(some i6), none, .move (.t i1)⟩⟩, ⟨10, .v, ⟨(some i5), none, .move (.t i15)⟩⟩, ⟨11, .v, ⟨(some i16), none, .extract 0 (.t i5)⟩⟩, ⟨13, .v, ⟨(some i18), none, .nilCheck (.t i6)⟩⟩, ⟨14, .v, ⟨(some i19), none, .fieldAddr 19 (.t i18)⟩⟩, ⟨15, .e, ⟨none, none, .store (some 5) (.t i19) (.t i16)⟩⟩, ⟨12, .v, ⟨(some i17), none, .extract 1 (.t i5)⟩⟩])
  (.seq (.seq (.drawn [⟨0, .v, ⟨(some i20), none, .move (.t i0)⟩⟩, ⟨1, .v, ⟨(some i21), none, .nilCheck (.t i20)⟩⟩, ⟨2, .v, ⟨(some i22), none, .fieldAddr 9 (.t i21)⟩⟩, ⟨3, (.r 0), ⟨(some i23), none, .load none (.t i22)⟩⟩, ⟨4, .v, ⟨(some i24), none, .move (.t i1)⟩⟩, ⟨5, .v, ⟨(some i25), none, .nilCheck (.t i24)⟩⟩, ⟨6, .v, ⟨(some i26), none, .fieldAddr 19 (.t i25)⟩⟩, ⟨7, .v, ⟨(some i27), none, .fieldAddr 0 (.t i26)⟩⟩, ⟨8, (.r 0), ⟨(some i28), none, .load none (.t i27)⟩⟩, ⟨9, .v, ⟨(some i29), none, .move (.t i1)⟩⟩, ⟨10, .v, ⟨(some i30), none, .nilCheck (.t i29)⟩⟩, ⟨11, .v, ⟨(some i31), none, .fieldAddr 19 (.t i30)⟩⟩, ⟨12, .v, ⟨(some i32), none, .fieldAddr 4 (.t i31)⟩⟩, ⟨13, (.r 0), ⟨(some i33), none, .load none (.t i32)⟩⟩, ⟨14, .e, ⟨(some i34), none, .call i247 [(.t i23), (.t i28), (.t i33)]⟩⟩])
  (.cond (.t i34) (.seq (.region [⟨(some i4), none, .move (.c (.bool true))⟩])
  .ret)
  .skip))
  (.seq (.region [⟨(some i35), none, .move (.t i1)⟩, ⟨(some i36), none, .nilCheck (.t i35)⟩, ⟨(some i37), none, .fieldAddr 1 (.t i36)⟩, ⟨none, none, .store none (.t i37) (.c (.fn i202 [] []))⟩])
  (.seq (.region [⟨(some i4), none, .move (.c (.bool false))⟩])
  .ret)))))⟩
theorem tr215 : trFunc (tyIn Tryz.prog tyn) ibn Tryz.f215 = some af215 := by kernel_rfl
theorem nm215 : (Tryz.f215.name == "runtime.NumGoroutine") = false := by kernel_rfl
theorem good215 : GoodAt Tryz.prog tyn ibn i215 af215 := goodAt Tryz.func215 tr215 nm215 rfl
def af216 : AFunc := ⟨[.tmp i4], (.seq (.region [⟨(some i4), none, .move (.c (.bool false))⟩])
  (.seq (.region [⟨(some i5), none, .move (.t i0)⟩, ⟨(some i6), none, .bin (.ne .ptr) (.t i5) (.c .nilptr)⟩, ⟨(some i7), none, .move (.t i6)⟩, ⟨(some i8), (some (i7, true)), .move (.t i1)⟩, ⟨(some i9), (some (i7, true)), .not (.t i8)⟩, ⟨(some i10), none, .pick (.t i7) (.t i9) (.c (.bool false))⟩, ⟨(some i11), none, .move (.t i10)⟩, ⟨(some i12), (some (i11, true)), .move (.t i0)⟩, ⟨(some i13), (some (i11, true)), .call i248 [(.t i12)]⟩, ⟨(some i14), (some (i11, true)), .bin .gtr (.t i13) (.c (.int .i64 (.ofNat 0)))⟩, ⟨(some i15), none, .pick (.t i11) (.t i14) (.c (.bool false))⟩, ⟨(some i4), none, .move (.t i15)⟩])
  .ret))⟩
theorem tr216 : trFunc (tyIn Tryz.prog tyn) ibn Tryz.f216 = some af216 := by kernel_rfl
theorem nm216 : (Tryz.f216.name == "runtime.NumGoroutine") = false := by kernel_rfl
theorem good216 : GoodAt Tryz.prog tyn ibn i216 af216 := goodAt Tryz.func216 tr216 nm216 rfl
def af217 : AFunc := ⟨[.tmp i2, .tmp i3], (.seq (.region [⟨(some i2), none, .move (.c (.int .i64 (.ofNat 0)))⟩, ⟨(some i3), none, .move (.c (.bool false))⟩])
  (.seq (.region [⟨(some i4), none, .move (.t i0)⟩, ⟨(some i5), none, .call i249 [(.t i4)]⟩, ⟨(some i6), none, .call i250 [(.t i5)]⟩, ⟨(some i7), none, .extract 0 (.t i6)⟩, ⟨(some i8), none, .extract 1 (.t i6)⟩, ⟨(some i2), none, .move (.t i7)⟩, ⟨(some i3), none, .move (.t i8)⟩])
  .ret))⟩
theorem tr217 : trFunc (tyIn Tryz.prog tyn) ibn Tryz.f217 = some af217 := by kernel_rfl
theorem nm217 : (Tryz.f217.name == "runtime.NumGoroutine") = false := by kernel_rfl
theorem good217 : GoodAt Tryz.prog tyn ibn i217 af217 := goodAt Tryz.func217 tr217 nm217 rfl
def af218 : AFunc := ⟨[], (.seq (.drawn [⟨0, .v, ⟨(some i4), none, .move (.t i0)⟩⟩, ⟨1, .v, ⟨(some i5), none, .move (.t i1)⟩⟩, ⟨2, .e, ⟨(some i6), none, .call i162 [(.t i4), (.t i5)]⟩⟩, ⟨3, .v, ⟨(some i7), none, .move (.t i1)⟩⟩, ⟨4, .v, ⟨(some i8), none, .nilCheck (.t i7)⟩⟩, ⟨5, .v, ⟨(some i9), none, .fieldAddr 19 (.t i8)⟩⟩, ⟨6, .v, ⟨(some i10), none, .fieldAddr 2 (.t i9)⟩⟩, ⟨7, (.r 1), ⟨(some i11), none, .load none (.t i10)⟩⟩, ⟨8, .v, ⟨(some i12), none, .move (.t i1)⟩⟩, ⟨9, .v, ⟨(some i13), none, .nilCheck (.t i12)⟩⟩, ⟨10, .v, ⟨(some i14), none, .fieldAddr 18 (.t i13)⟩⟩, ⟨11, (.r 1), ⟨(some i15), none, .load none (.t i14)⟩⟩, ⟨12, .e, ⟨(some i16), none, .call i153 [(.t i6), (.t i11), (.t i15)]⟩⟩])
  (.seq (.region [⟨(some i17), none, .move (.t i1)⟩, ⟨(some i18), none, .nilCheck (.t i17)⟩, ⟨(some i19), none, .fieldAddr 1 (.t i18)⟩, ⟨none, none, .store none (.t i19) (.c (.fn i251 [] []))⟩])
  (.seq (.drawn [⟨0, .v, ⟨(some i20), none, .move (.t i0)⟩⟩, ⟨1, .v, ⟨(some i21), none, .move (.t i1)⟩⟩, ⟨2, .e, ⟨(some i22), none, .call i162 [(.t i20), (.t i21)]⟩⟩, ⟨3, .v, ⟨(some i23), none, .move (.t i1)⟩⟩, ⟨4, .v, ⟨(some i24), none, .nilCheck (.t i23)⟩⟩, ⟨5, .v, ⟨(some i25), none, .fieldAddr 11 (.t i24)⟩⟩, ⟨6, .v, ⟨(some i26), none, .fieldAddr 1 (.t i25)⟩⟩, ⟨7, (.r 1), ⟨(some i27), none, .load none (.t i26)⟩⟩, ⟨8, .e, ⟨(some i28), none, .call i216 [(.t i22), (.t i27)]⟩⟩])
  (.cond (.t i28) (.region [⟨(some i29), none, .move (.t i1)⟩, ⟨(some i30), none, .nilCheck (.t i29)⟩, ⟨(some i31), none, .fieldAddr 1 (.t i30)⟩, ⟨none, none, .store none (.t i31) (.c (.fn i252 [] []))⟩])
  .skip))))⟩
theorem tr218 : trFunc (tyIn Tryz.prog tyn) ibn Tryz.f218 = some af218 := by kernel_rfl
theorem nm218 : (Tryz.f218.name == "runtime.NumGoroutine") = false := by kernel_rfl
theorem good218 : GoodAt Tryz.prog tyn ibn i218 af218 := goodAt Tryz.func218 tr218 nm218 rfl
def af219 : AFunc := ⟨[.tmp i4], (.seq (.region [⟨(some i4), none, .move (.c (.int .i64 (.ofNat 0)))⟩])
  (.seq (.region [⟨(some i5), none, .move (.t i0)⟩, ⟨(some i6), none, .call i249 [(.t i5)]⟩, ⟨(some i7), none, .move (.t i1)⟩, ⟨(some i8), none, .call i253 [(.t i6), (.t i7)]⟩, ⟨(some i4), none, .move (.t i8)⟩])
  .ret))⟩
theorem tr219 : trFunc (tyIn Tryz.prog tyn) ibn Tryz.f219 = some af219 := by kernel_rfl
theorem nm219 : (Tryz.f219.name == "runtime.NumGoroutine") = false := by kernel_rfl
theorem good219 : GoodAt Tryz.prog tyn ibn i219 af219 := goodAt Tryz.func219 tr219 nm219 rfl
def af220 : AFunc := ⟨[.tmp i2, .tmp i3], (.seq (.region [⟨(some i2), none, .move (.c (.int .i64 (.ofNat 0)))⟩, ⟨(some i3), none, .move (.c (.int .i64 (.ofNat 0)))⟩])
  (.seq (.region [⟨(some i4), none, .move (.t i0)⟩, ⟨(some i5), none, .call i249 [(.t i4)]⟩, ⟨(some i6), none, .call i254 [(.t i5)]⟩, ⟨(some i7), none, .extract 0 (.t i6)⟩, ⟨(some i8), none, .extract 1 (.t i6)⟩, ⟨(some i2), none, .move (.t i7)⟩, ⟨(some i3), none, .move (.t i8)⟩])
  .ret))⟩
theorem tr220 : trFunc (tyIn Tryz.prog tyn) ibn Tryz.f220 = some af220 := by kernel_rfl
theorem nm220 : (Tryz.f220.name == "runtime.NumGoroutine") = false := by kernel_rfl
theorem good220 : GoodAt Tryz.prog tyn ibn i220 af220 := goodAt Tryz.func220 tr220 nm220 rfl
def af221 : AFunc := ⟨[], (.seq (.region [⟨(some i5), none, .load (some 2) (.t i1)⟩, ⟨(some i6), none, .mkfn i222 [(.t i5)] []⟩, ⟨(some i7), none, .build [.nilfn, (.int .u8 (.ofNat 0))] [(0, 1, (.t i6)), (1, 1, (.c (.int .u8 (.ofNat 1))))]⟩, ⟨(some i8), none, .load (some 2) (.t i1)⟩, ⟨(some i9), none, .mkfn i223 [(.t i8)] []⟩, ⟨(some i10), none, .build [.nilfn, (.int .u8 (.ofNat 0))] [(0, 1, (.t i9)), (1, 1, (.c (.int .u8 (.ofNat 2))))]⟩, ⟨(some i11), none, .load (some 2) (.t i1)⟩, ⟨(some i12), none, .mkfn i224 [(.t i11)] []⟩, ⟨(some i13), none, .build [.nilfn, (.int .u8 (.ofNat 0))] [(0, 1, (.t i12)), (1, 1, (.c (.int .u8 (.ofNat 3))))]⟩, ⟨(some i14), none, .load (some 2) (.t i1)⟩, ⟨(some i15), none, .mkfn i225 [(.t i14)] []⟩, ⟨(some i16), none, .build [.nilfn, (.int .u8 (.ofNat 0))] [(0, 1, (.t i15)), (1, 1, (.c (.int .u8 (.ofNat 4))))]⟩, ⟨(some i17), none, .load (some 2) (.t i1)⟩, ⟨(some i18), none, .mkfn i226 [(.t i17)] []⟩, ⟨(some i19), none, .build [.nilfn, (.int .u8 (.ofNat 0))] [(0, 1, (.t i18)), (1, 1, (.c (.int .u8 (.ofNat 5))))]⟩, ⟨(some i20), none, .buildSlice [.nilfn, (.int .u8 (.ofNat 0)), .nilfn, (.int .u8 (.ofNat 0)), .nilfn, (.int .u8 (.ofNat 0)), .nilfn, (.int .u8 (.ofNat 0)), .nilfn, (.int .u8 (.ofNat 0))] 5 [(0, 2, (.t i7)), (2, 2, (.t i10)), (4, 2, (.t i13)), (6, 2, (.t i16)), (8, 2, (.t i19))]⟩, ⟨(some i21), none, .lenSl (.t i20)⟩, ⟨(some i22), none, .move (.c (.int .i64 (.ofNat 0)))⟩])
  (.block 0 (.loop (.seq (.region [⟨(some i23), none, .bin .lss (.t i22) (.t i21)⟩])
  (.seq (.cond (.t i23) .skip
  (.exit 0))
  (.seq (.block 1 (.seq (.region [⟨(some i24), none, .indexSl 2 (.t i20) (.t i22)⟩, ⟨(some i25), none, .load (some 2) (.t i24)⟩, ⟨(some i4), none, .alloc [.nilfn, (.int .u8 (.ofNat 0))]⟩, ⟨none, none, .store (some 2) (.t i4) (.t i25)⟩])
  (.seq (.region [⟨(some i26), none, .move (.t i0)⟩, ⟨(some i27), none, .load (some 2) (.t i4)⟩, ⟨(some i28), none, .callv (.t i26) [(.t i27)]⟩, ⟨(some i29), none, .not (.t i28)⟩])
  (.cond (.t i29) .ret
  .skip))))
  (.region [⟨(some i30), none, .bin .add (.t i22) (.c (.int .i64 (.ofNat 1)))⟩, ⟨(some i22), none, .move (.t i30)⟩])))))))⟩
theorem tr221 : trFunc (tyIn Tryz.prog tyn) ibn Tryz.f221 = some af221 := by kernel_rfl
theorem nm221 : (Tryz.f221.name == "runtime.NumGoroutine") = false := by kernel_rfl
theorem good221 : GoodAt Tryz.prog tyn ibn i221 af221 := goodAt Tryz.func221 tr221 nm221 rfl
def af222 : AFunc := ⟨[.tmp i2], (.seq (.region [⟨(some i1), none, .box (.t i0)⟩, ⟨(some i2), none, .move (.c (.bool false))⟩])
  (.seq (.region [⟨(some i3), none, .fieldAddr 1 (.t i1)⟩, ⟨(some i4), none, .load none (.t i3)⟩, ⟨(some i5), none, .move (.t i4)⟩, ⟨(some i6), (some (i5, true)), .fieldAddr 0 (.t i1)⟩, ⟨(some i7), (some (i5, true)), .load none (.t i6)⟩, ⟨(some i8), (some (i5, true)), .call i166 [(.t i7)]⟩, ⟨(some i9), none, .pick (.t i5) (.t i8) (.c (.bool false))⟩, ⟨(some i2), none, .move (.t i9)⟩])
  .ret))⟩
theorem tr222 : trFunc (tyIn Tryz.prog tyn) ibn Tryz.f222 = some af222 := by kernel_rfl
theorem nm222 : (Tryz.f222.name == "runtime.NumGoroutine") = false := by kernel_rfl
theorem good222 : GoodAt Tryz.prog tyn ibn i222 af222 := goodAt Tryz.func222 tr222 nm222 rfl
def af223 : AFunc := ⟨[.tmp i2], (.seq (.region [⟨(some i1), none, .box (.t i0)⟩, ⟨(some i2), none, .move (.c (.bool false))⟩])
  (.seq (.region [⟨(some i6), none, .fieldAddr 0 (.t i1)⟩, ⟨(some i7), none, .load none (.t i6)⟩, ⟨(some i8), none, .fieldAddr 1 (.t i1)⟩, ⟨(some i9), none, .load none (.t i8)⟩, ⟨(some i10), none, .not (.t i9)⟩, ⟨(some i11), none, .call i192 [(.t i7), (.t i10)]⟩, ⟨(some i5), none, .move (.t i11)⟩, ⟨(some i12), none, .extract 0 (.t i5)⟩, ⟨(some i13), none, .extract 1 (.t i5)⟩, ⟨(some i3), none, .move (.t i12)⟩, ⟨(some i4), none, .move (.t i13)⟩])
  (.seq (.region [⟨(some i14), none, .move (.t i4)⟩, ⟨(some i2), none, .move (.t i14)⟩])
  .ret)))⟩
theorem tr223 : trFunc (tyIn Tryz.prog tyn) ibn Tryz.f223 = some af223 := by kernel_rfl
theorem nm223 : (Tryz.f223.name == "runtime.NumGoroutine") = false := by kernel_rfl
theorem good223 : GoodAt Tryz.prog tyn ibn i223 af223 := goodAt Tryz.func223 tr223 nm223 rfl
def af224 : AFunc := ⟨[.tmp i2], (.seq (.region [⟨(some i1), none, .box (.t i0)⟩, ⟨(some i2), none, .move (.c (.bool false))⟩])
  (.seq (.seq (.region [⟨(some i3), none, .fieldAddr 1 (.t i1)⟩, ⟨(some i4), none, .load none (.t i3)⟩])
  (.cond (.t i4) (.seq (.drawn [⟨0, .v, ⟨(some i5), none, .fieldAddr 0 (.t i1)⟩⟩, ⟨1, (.r 0), ⟨(some i6), none, .load none (.t i5)⟩⟩, ⟨2, .e, ⟨(some i7), none, .call i255 [(.t i6)]⟩⟩, ⟨3, .v, ⟨(some i8), none, .fieldAddr 0 (.t i1)⟩⟩, ⟨4, (.r 1), ⟨(some i9), none, .load none (.t i8)⟩⟩, ⟨5, .e, ⟨(some i10), none, .call i248 [(.t i9)]⟩⟩, ⟨6, .v, ⟨(some i11), none, .bin .lss (.t i7) (.t i10)⟩⟩, ⟨7, .v, ⟨(some i2), none, .move (.t i11)⟩⟩])
  .ret)
  .skip))
  (.seq (.region [⟨(some i12), none, .fieldAddr 0 (.t i1)⟩, ⟨(some i13), none, .load none (.t i12)⟩, ⟨(some i14), none, .call i255 [(.t i13)]⟩, ⟨(some i15), none, .bin .gtr (.t i14) (.c (.int .i64 (.ofNat 0)))⟩, ⟨(some i2), none, .move (.t i15)⟩])
  .ret)))⟩
theorem tr224 : trFunc (tyIn Tryz.prog tyn) ibn Tryz.f224 = some af224 := by kernel_rfl
theorem nm224 : (Tryz.f224.name == "runtime.NumGoroutine") = false := by kernel_rfl
theorem good224 : GoodAt Tryz.prog tyn ibn i224 af224 := goodAt Tryz.func224 tr224 nm224 rfl
def af225 : AFunc := ⟨[.tmp i2], (.seq (.region [⟨(some i1), none, .box (.t i0)⟩, ⟨(some i2), none, .move (.c (.bool false))⟩])
  (.seq (.region [⟨(some i3), none, .fieldAddr 1 (.t i1)⟩, ⟨(some i4), none, .load none (.t i3)⟩, ⟨(some i5), none, .not (.t i4)⟩, ⟨(some i6), none, .move (.t i5)⟩, ⟨(some i7), (some (i6, true)), .fieldAddr 0 (.t i1)⟩, ⟨(some i8), (some (i6, true)), .load none (.t i7)⟩, ⟨(some i9), (some (i6, true)), .call i166 [(.t i8)]⟩, ⟨(some i10), none, .pick (.t i6) (.t i9) (.c (.bool false))⟩, ⟨(some i2), none, .move (.t i10)⟩])
  .ret))⟩
theorem tr225 : trFunc (tyIn Tryz.prog tyn) ibn Tryz.f225 = some af225 := by kernel_rfl
theorem nm225 : (Tryz.f225.name == "runtime.NumGoroutine") = false := by kernel_rfl
theorem good225 : GoodAt Tryz.prog tyn ibn i225 af225 := goodAt Tryz.func225 tr225 nm225 rfl
def af226 : AFunc := ⟨[.tmp i2], (.seq (.region [⟨(some i1), none, .box (.t i0)⟩, ⟨(some i2), none, .move (.c (.bool false))⟩])
  (.seq (.region [⟨(some i2), none, .move (.c (.bool true))⟩])
  .ret))⟩
theorem tr226 : trFunc (tyIn Tryz.prog tyn) ibn Tryz.f226 = some af226 := by kernel_rfl
theorem nm226 : (Tryz.f226.name == "runtime.NumGoroutine") = false := by kernel_rfl
theorem good226 : GoodAt Tryz.prog tyn ibn i226 af226 := goodAt Tryz.func226 tr226 nm226 rfl
def af227 : AFunc := ⟨[.tmp i2, .tmp i3], (.seq (.region [⟨(some i2), none, .move (.c (.int .i64 (.ofNat 0)))⟩, ⟨(some i3), none, .move (.c (.bool false))⟩])
  (.seq (.seq (.region [⟨(some i4), none, .move (.t i0)⟩, ⟨(some i5), none, .bin (.eq .ptr) (.t i4) (.c .nilptr)⟩, ⟨(some i6), none, .move (.t i5)⟩, ⟨(some i7), (some (i6, false)), .move (.t i0)⟩, ⟨(some i8), (some (i6, false)), .nilCheck (.t i7)⟩, ⟨(some i9), (some (i6, false)), .fieldAddr 1 (.t i8)⟩, ⟨(some i10), (some (i6, false)), .load none (.t i9)⟩, ⟨(some i11), (some (i6, false)), .bin .lss (.t i10) (.c (.int .i64 (.ofNat 0)))⟩, ⟨(some i12), none, .pick (.t i6) (.c (.bool true)) (.t i11)⟩])
  (.cond (.t i12) (.seq (.region [⟨(some i2), none, .move (.c (.int .i64 (.ofNat 0)))⟩, ⟨(some i3), none, .move (.c (.bool false))⟩])
  .ret)
  .skip))
  (.seq (.region [⟨(some i13), none, .move (.t i0)⟩, ⟨(some i14), none, .nilCheck (.t i13)⟩, ⟨(some i15), none, .fieldAddr 1 (.t i14)⟩, ⟨(some i16), none, .load none (.t i15)⟩, ⟨(some i2), none, .move (.t i16)⟩, ⟨(some i3), none, .move (.c (.bool true))⟩])
  .ret)))⟩
theorem tr227 : trFunc (tyIn Tryz.prog tyn) ibn Tryz.f227 = some af227 := by kernel_rfl
theorem nm227 : (Tryz.f227.name == "runtime.NumGoroutine") = false := by kernel_rfl
theorem good227 : GoodAt Tryz.prog tyn ibn i227 af227 := goodAt Tryz.func227 tr227 nm227 rfl
def af228 : AFunc := ⟨[], (.seq (.region [⟨(some i6), none, .move (.t i0)⟩, ⟨(some i7), none, .bin (.ne .ptr) (.t i6) (.c .nilptr)⟩, ⟨(some i8), none, .move (.t i7)⟩, ⟨(some i9), (some (i8, true)), .move (.t i1)⟩, ⟨(some i10), (some (i8, true)), .bin .geq (.t i9) (.c (.int .i64 (.ofNat 0)))⟩, ⟨(some i11), none, .pick (.t i8) (.t i10) (.c (.bool false))⟩, ⟨(some i12), none, .move (.t i11)⟩, ⟨(some i13), (some (i12, true)), .move (.t i1)⟩, ⟨(some i14), (some (i12, true)), .move (.t i0)⟩, ⟨(some i15), (some (i12, true)), .nilCheck (.t i14)⟩, ⟨(some i16), (some (i12, true)), .fieldAddr 2 (.t i15)⟩, ⟨(some i17), (some (i12, true)), .load none (.t i16)⟩, ⟨(some i18), (some (i12, true)), .bin .lss (.t i13) (.t i17)⟩, ⟨(some i19), none, .pick (.t i12) (.t i18) (.c (.bool false))⟩])
  (.cond (.t i19) (.region [⟨(some i20), none, .move (.t i2)⟩, ⟨(some i21), none, .move (.t i0)⟩, ⟨(some i22), none, .nilCheck (.t i21)⟩, ⟨(some i23), none, .fieldAddr 1 (.t i22)⟩, ⟨(some i24), none, .load none (.t i23)⟩, ⟨(some i25), none, .move (.t i1)⟩, ⟨(some i26), none, .bin .add (.t i24) (.t i25)⟩, ⟨(some i27), none, .callv (.t i20) [(.t i26)]⟩])
  .skip))⟩
theorem tr228 : trFunc (tyIn Tryz.prog tyn) ibn Tryz.f228 = some af228 := by kernel_rfl
theorem nm228 : (Tryz.f228.name == "runtime.NumGoroutine") = false := by kernel_rfl
theorem good228 : GoodAt Tryz.prog tyn ibn i228 af228 := goodAt Tryz.func228 tr228 nm228 rfl
def af229 : AFunc := ⟨[], (.seq (.region [⟨(some i4), none, .load none (.t i1)⟩, ⟨(some i5), none, .nilCheck (.t i4)⟩, ⟨(some i6), none, .fieldAddr 0 (.t i5)⟩, ⟨(some i7), none, .fieldAddr 0 (.t i6)⟩, ⟨(some i8), none, .load none (.t i7)⟩, ⟨(some i9), none, .move (.t i0)⟩, ⟨(some i10), none, .call i230 [(.t i8), (.t i9)]⟩, ⟨none, none, .store none (.t i2) (.t i10)⟩])
  (.seq (.region [⟨(some i11), none, .load none (.t i2)⟩, ⟨(some i12), none, .bin .rem (.t i11) (.c (.int .u64 (.ofNat 2)))⟩, ⟨(some i13), none, .bin (.eq .int) (.t i12) (.c (.int .u64 (.ofNat 0)))⟩])
  (.cond (.t i13) (.region [⟨(some i14), none, .load none (.t i1)⟩, ⟨(some i15), none, .nilCheck (.t i14)⟩, ⟨(some i16), none, .fieldAddr 0 (.t i15)⟩, ⟨(some i17), none, .fieldAddr 0 (.t i16)⟩, ⟨(some i18), none, .load none (.t i17)⟩, ⟨(some i19), none, .move (.t i0)⟩, ⟨(some i20), none, .call i108 [(.t i18), (.t i19), (.c (.int .u64 (.ofNat 1)))]⟩, ⟨(some i21), none, .bin .add (.t i20) (.c (.int .u64 (.ofNat 1)))⟩, ⟨none, none, .store none (.t i2) (.t i21)⟩])
  .skip)))⟩
theorem tr229 : trFunc (tyIn Tryz.prog tyn) ibn Tryz.f229 = some af229 := by kernel_rfl
theorem nm229 : (Tryz.f229.name == "runtime.NumGoroutine") = false := by kernel_rfl
theorem good229 : GoodAt Tryz.prog tyn ibn i229 af229 := goodAt Tryz.func229 tr229 nm229 rfl
def af230 : AFunc := ⟨[.tmp i4], (.seq (.region [⟨(some i4), none, .move (.c (.int .u64 (.ofNat 0)))⟩])
  (.seq (.seq (.region [⟨(some i5), none, .move (.t i0)⟩, ⟨(some i6), none, .move (.t i1)⟩, ⟨(some i7), none, .call i174 [(.t i5), (.t i6)]⟩, ⟨(some i8), none, .not (.t i7)⟩])
  (.cond (.t i8) (.seq (.region [⟨(some i4), none, .move (.c (.int .u64 (.ofNat 0)))⟩])
  .ret)
  .skip))
  (.seq (.region [⟨(some i9), none, .move (.t i0)⟩, ⟨(some i10), none, .nilCheck (.t i9)⟩, ⟨(some i11), none, .fieldAddr 0 (.t i10)⟩, ⟨(some i12), none, .load none (.t i11)⟩, ⟨(some i13), none, .move (.t i1)⟩, ⟨(some i14), none, .indexSl 1 (.t i12) (.t i13)⟩, ⟨(some i15), none, .load none (.t i14)⟩, ⟨(some i4), none, .move (.t i15)⟩])
  .ret)))⟩
theorem tr230 : trFunc (tyIn Tryz.prog tyn) ibn Tryz.f230 = some af230 := by kernel_rfl
theorem nm230 : (Tryz.f230.name == "runtime.NumGoroutine") = false := by kernel_rfl
theorem good230 : GoodAt Tryz.prog tyn ibn i230 af230 := goodAt Tryz.func230 tr230 nm230 rfl
def af231 : AFunc := ⟨[.tmp i2], (.seq (.region [⟨(some i2), none, .move (.c (.int .i64 (.ofNat 0)))⟩])
  (.seq (.seq (.region [⟨(some i3), none, .move (.t i0)⟩, ⟨(some i4), none, .nilCheck (.t i3)⟩, ⟨(some i5), none, .fieldAddr 0 (.t i4)⟩, ⟨(some i6), none, .load none (.t i5)⟩])
  (.cond (.t i6) (.seq (.region [⟨(some i2), none, .move (.c (.int .i64 (.ofNat 9)))⟩])
  .ret)
  .skip))
  (.seq (.region [⟨(some i7), none, .move (.t i0)⟩, ⟨(some i8), none, .nilCheck (.t i7)⟩, ⟨(some i9), none, .fieldAddr 0 (.t i8)⟩, ⟨none, none, .store none (.t i9) (.c (.bool true))⟩])
  (.seq (.region [⟨(some i2), none, .move (.c (.int .i64 (.ofNat 0)))⟩])
  .ret))))⟩
theorem tr231 : trFunc (tyIn Tryz.prog tyn) ibn Tryz.f231 = some af231 := by kernel_rfl
theorem nm231 : (Tryz.f231.name == "runtime.NumGoroutine") = false := by kernel_rfl
theorem good231 : GoodAt Tryz.prog tyn ibn i231 af231 := goodAt Tryz.func231 tr231 nm231 rfl
def af232 : AFunc := ⟨[.tmp i4], (.seq (.region [⟨(some i4), none, .move (.c .nilslice)⟩])
  (.seq (.seq (.region [⟨(some i9), none, .move (.t i1)⟩, ⟨(some i10), none, .nilCheck (.t i9)⟩, ⟨(some i11), none, .fieldAddr 15 (.t i10)⟩, ⟨(some i12), none, .load none (.t i11)⟩, ⟨(some i13), none, .bin .lss (.t i12) (.c (.int .i64 (.ofNat 0)))⟩])
  (.cond (.t i13) (.seq (.region [⟨(some i14), none, .move (.t i1)⟩, ⟨(some i15), none, .nilCheck (.t i14)⟩, ⟨(some i16), none, .fieldAddr 11 (.t i15)⟩, ⟨(some i17), none, .load (some 4) (.t i16)⟩, ⟨(some i18), none, .buildSlice [(.int .i64 (.ofNat 0)), (.bool false), (.int .i64 (.ofNat 0)), (.int .i64 (.ofNat 0))] 1 [(0, 4, (.t i17))]⟩, ⟨(some i4), none, .move (.t i18)⟩])
  .ret)
  .skip))
  (.seq (.region [⟨(some i19), none, .move (.t i0)⟩, ⟨(some i20), none, .move (.t i1)⟩, ⟨(some i21), none, .call i95 [(.t i19), (.t i20)]⟩, ⟨(some i5), none, .alloc [(.int .i64 (.ofNat 0)), (.int .i64 (.ofNat 0)), (.int .i64 (.ofNat 0)), (.int .i64 (.ofNat 0)), (.int .i64 (.ofNat 0)), (.int .i64 (.ofNat 0)), (.int .i64 (.ofNat 0)), (.int .i64 (.ofNat 0)), (.int .i64 (.ofNat 0)), (.int .i64 (.ofNat 0))]⟩, ⟨none, none, .store (some 10) (.t i5) (.t i21)⟩])
  (.seq (.seq (.drawn [⟨0, .v, ⟨(some i22), none, .move (.t i0)⟩⟩, ⟨1, .v, ⟨(some i23), none, .nilCheck (.t i22)⟩⟩, ⟨2, .v, ⟨(some i24), none, .fieldAddr 1 (.t i23)⟩⟩, ⟨3, .v, ⟨(some i25), none, .fieldAddr 2 (.t i24)⟩⟩, ⟨4, (.r 0), ⟨(some i26), none, .load none (.t i25)⟩⟩, ⟨5, .v, ⟨(some i27), none, .move (.t i1)⟩⟩, ⟨6, .v, ⟨(some i28), none, .nilCheck (.t i27)⟩⟩, ⟨7, .v, ⟨(some i29), none, .fieldAddr 15 (.t i28)⟩⟩, ⟨8, (.r 0), ⟨(some i30), none, .load none (.t i29)⟩⟩, ⟨9, .v, ⟨(some i31), none, .indexSl 2 (.t i26) (.t i30)⟩⟩, ⟨10, .v, ⟨(some i32), none, .fieldAddr 0 (.t i31)⟩⟩, ⟨11, (.r 0), ⟨(some i33), none, .load none (.t i32)⟩⟩, ⟨12, .v, ⟨(some i34), none, .lenSl (.t i33)⟩⟩, ⟨13, .v, ⟨(some i35), none, .move (.c (.int .i64 (.ofNat 0)))⟩⟩])
  (.block 0 (.loop (.seq (.region [⟨(some i36), none, .bin .lss (.t i35) (.t i34)⟩])
  (.seq (.cond (.t i36) .skip
  (.exit 0))
  (.seq (.block 1 (.seq (.region [⟨(some i37), none, .move (.t i35)⟩, ⟨(some i38), none, .indexSl 4 (.t i33) (.t i35)⟩, ⟨(some i39), none, .load (some 4) (.t i38)⟩, ⟨(some i7), none, .alloc [(.bool false), (.int .i64 (.ofNat 0)), (.int .i64 (.ofNat 0)), (.int .i64 (.ofNat 0))]⟩, ⟨(some i6), none, .move (.t i37)⟩, ⟨none, none, .store (some 4) (.t i7) (.t i39)⟩])
  (.seq (.seq (.region [⟨(some i40), none, .fieldAddr 1 (.t i7)⟩, ⟨(some i41), none, .load none (.t i40)⟩, ⟨(some i42), none, .bin (.eq .int) (.t i41) (.c (.int .i64 (.negSucc 0)))⟩])
  (.cond (.t i42) (.exit 1)
  .skip))
  (.seq (.region [⟨(some i43), none, .move (.t i6)⟩, ⟨(some i44), none, .fieldAddr 0 (.t i7)⟩, ⟨(some i45), none, .load none (.t i44)⟩, ⟨(some i46), none, .fieldAddr 1 (.t i7)⟩, ⟨(some i47), none, .load none (.t i46)⟩, ⟨(some i48), none, .build [(.int .i64 (.ofNat 0)), (.bool false), (.int .i64 (.ofNat 0)), (.int .i64 (.ofNat 0))] [(0, 1, (.t i43)), (1, 1, (.t i45)), (2, 1, (.t i47))]⟩, ⟨(some i8), none, .alloc [(.int .i64 (.ofNat 0)), (.bool false), (.int .i64 (.ofNat 0)), (.int .i64 (.ofNat 0))]⟩, ⟨none, none, .store (some 4) (.t i8) (.t i48)⟩])
  (.seq (.seq (.region [⟨(some i49), none, .fieldAddr 0 (.t i7)⟩, ⟨(some i50), none, .load none (.t i49)⟩])
  (.cond (.t i50) (.region [⟨(some i51), none, .fieldAddr 2 (.t i7)⟩, ⟨(some i52), none, .load none (.t i51)⟩, ⟨(some i53), none, .fieldAddr 2 (.t i5)⟩, ⟨(some i54), none, .indexArr 8 1 (.t i53) (.t i52)⟩, ⟨(some i55), none, .load none (.t i54)⟩, ⟨(some i56), none, .fieldAddr 3 (.t i8)⟩, ⟨none, none, .store none (.t i56) (.t i55)⟩])
  .skip))
  (.region [⟨(some i57), none, .move (.t i4)⟩, ⟨(some i58), none, .load (some 4) (.t i8)⟩, ⟨(some i59), none, .buildSlice [(.int .i64 (.ofNat 0)), (.bool false), (.int .i64 (.ofNat 0)), (.int .i64 (.ofNat 0))] 1 [(0, 4, (.t i58))]⟩, ⟨(some i60), none, .append 4 (.t i57) (.t i59)⟩, ⟨(some i4), none, .move (.t i60)⟩]))))))
  (.region [⟨(some i61), none, .bin .add (.t i35) (.c (.int .i64 (.ofNat 1)))⟩, ⟨(some i35), none, .move (.t i61)⟩])))))))
  (.seq (.region [⟨(some i62), none, .move (.t i4)⟩, ⟨(some i4), none, .move (.t i62)⟩])
  .ret)))))⟩
theorem tr232 : trFunc (tyIn Tryz.prog tyn) ibn Tryz.f232 = some af232 := by kernel_rfl
theorem nm232 : (Tryz.f232.name == "runtime.NumGoroutine") = false := by kernel_rfl
theorem good232 : GoodAt Tryz.prog tyn ibn i232 af232 := goodAt Tryz.func232 tr232 nm232 rfl
def af233 : AFunc := ⟨[.tmp i4, .tmp i5], (.seq (.region [⟨(some i3), none, .box (.t i1)⟩, ⟨(some i4), none, .move (.c (.int .i64 (.ofNat 0)))⟩, ⟨(some i5), none, .move (.c (.int .i64 (.ofNat 0)))⟩])
  (.seq (.block 0 (.seq (.region [⟨(some i8), none, .move (.t i0)⟩, ⟨(some i9), none, .bin (.eq .ptr) (.t i8) (.c .nilptr)⟩, ⟨(some i7), none, .move (.t i9)⟩])
  (.cond (.t i7) (.seq (.region [⟨(some i4), none, .move (.c (.int .i64 (.ofNat 0)))⟩, ⟨(some i5), none, .move (.c (.int .i64 (.ofNat 1)))⟩])
  .ret)
  (.seq (.region [⟨(some i11), none, .move (.t i0)⟩, ⟨(some i12), none, .nilCheck (.t i11)⟩, ⟨(some i13), none, .fieldAddr 1 (.t i12)⟩, ⟨(some i14), none, .load none (.t i13)⟩, ⟨(some i15), none, .bin .lss (.t i14) (.c (.int .i64 (.ofNat 0)))⟩, ⟨(some i10), none, .move (.t i15)⟩])
  (.cond (.t i10) (.seq (.region [⟨(some i4), none, .move (.c (.int .i64 (.ofNat 0)))⟩, ⟨(some i5), none, .move (.c (.int .i64 (.ofNat 4)))⟩])
  .ret)
  .skip)))))
  (.seq (.region [⟨(some i16), none, .move (.t i0)⟩, ⟨(some i17), none, .nilCheck (.t i16)⟩, ⟨(some i18), none, .fieldAddr 1 (.t i17)⟩, ⟨(some i19), none, .load none (.t i18)⟩, ⟨(some i6), none, .move (.t i19)⟩])
  (.seq (.region [⟨(some i20), none, .move (.t i0)⟩, ⟨(some i21), none, .move (.t i0)⟩, ⟨(some i22), none, .nilCheck (.t i21)⟩, ⟨(some i23), none, .fieldAddr 0 (.t i22)⟩, ⟨(some i24), none, .load none (.t i23)⟩, ⟨(some i25), none, .move (.t i6)⟩, ⟨(some i26), none, .indexSl 7 (.t i24) (.t i25)⟩, ⟨(some i27), none, .fieldAddr 6 (.t i26)⟩, ⟨(some i28), none, .load none (.t i27)⟩, ⟨(some i29), none, .nilCheck (.t i20)⟩, ⟨(some i30), none, .fieldAddr 1 (.t i29)⟩, ⟨none, none, .store none (.t i30) (.t i28)⟩])
  (.seq (.drawn [⟨0, .v, ⟨(some i31), none, .move (.t i0)⟩⟩, ⟨1, .v, ⟨(some i32), none, .nilCheck (.t i31)⟩⟩, ⟨2, .v, ⟨(some i33), none, .fieldAddr 0 (.t i32)⟩⟩, ⟨3, (.r 0), ⟨(some i34), none, .load none (.t i33)⟩⟩, ⟨4, .v, ⟨(some i35), none, .move (.t i6)⟩⟩, ⟨5, (.r 0), ⟨(some i36), none, .load (some 5) (.t i3)⟩⟩, ⟨6, .v, ⟨(some i37), none, .build [(.bool false), (.int .i64 (.ofNat 0)), (.int .i64 (.ofNat 0)), (.bool false), (.int .i64 (.ofNat 0)), (.int .u64 (.ofNat 0)), (.int .i64 (.ofNat 0))] [(0, 1, (.c (.bool true))), (1, 5, (.t i36))]⟩⟩, ⟨7, .v, ⟨(some i38), none, .indexSl 7 (.t i34) (.t i35)⟩⟩, ⟨8, .e, ⟨none, none, .store (some 7) (.t i38) (.t i37)⟩⟩])
  (.seq (.region [⟨(some i39), none, .move (.t i0)⟩, ⟨(some i40), none, .nilCheck (.t i39)⟩, ⟨(some i41), none, .fieldAddr 2 (.t i40)⟩, ⟨(some i42), none, .load none (.t i41)⟩, ⟨(some i43), none, .bin .add (.t i42) (.c (.int .i64 (.ofNat 1)))⟩, ⟨(some i44), none, .nilCheck (.t i39)⟩, ⟨(some i45), none, .fieldAddr 2 (.t i44)⟩, ⟨none, none, .store none (.t i45) (.t i43)⟩])
  (.seq (.region [⟨(some i46), none, .move (.t i6)⟩, ⟨(some i4), none, .move (.t i46)⟩, ⟨(some i5), none, .move (.c (.int .i64 (.ofNat 0)))⟩])
  .ret)))))))⟩
theorem tr233 : trFunc (tyIn Tryz.prog tyn) ibn Tryz.f233 = some af233 := by kernel_rfl
theorem nm233 : (Tryz.f233.name == "runtime.NumGoroutine") = false := by kernel_rfl
theorem good233 : GoodAt Tryz.prog tyn ibn i233 af233 := goodAt Tryz.func233 tr233 nm233 rfl
def af234 : AFunc := ⟨[.tmp i6], (.seq (.region [⟨(some i5), none, .box (.t i2)⟩, ⟨(some i6), none, .move (.c (.int .i64 (.ofNat 0)))⟩])
  (.seq (.region [⟨(some i7), none, .move (.t i0)⟩, ⟨(some i8), none, .move (.t i1)⟩, ⟨(some i9), none, .mkfn i256 [] [(.t i5)]⟩, ⟨(some i10), none, .call i134 [(.t i7), (.t i8), (.t i9)]⟩, ⟨(some i6), none, .move (.t i10)⟩])
  .ret))⟩
theorem tr234 : trFunc (tyIn Tryz.prog tyn) ibn Tryz.f234 = some af234 := by kernel_rfl
theorem nm234 : (Tryz.f234.name == "runtime.NumGoroutine") = false := by kernel_rfl
theorem good234 : GoodAt Tryz.prog tyn ibn i234 af234 := goodAt Tryz.func234 tr234 nm234 rfl
def af235 : AFunc := ⟨[.tmp i6], (.seq (.region [⟨(some i6), none, .move (.c (.int .i64 (.ofNat 0)))⟩])
  (.seq (.region [⟨(some i7), none, .move (.t i0)⟩, ⟨(some i8), none, .move (.t i1)⟩, ⟨(some i9), none, .call i183 [(.t i7), (.t i8)]⟩, ⟨(some i10), none, .move (.t i2)⟩, ⟨(some i11), none, .call i258 [(.t i9), (.t i10)]⟩, ⟨(some i6), none, .move (.t i11)⟩])
  .ret))⟩
theorem tr235 : trFunc (tyIn Tryz.prog tyn) ibn Tryz.f235 = some af235 := by kernel_rfl
theorem nm235 : (Tryz.f235.name == "runtime.NumGoroutine") = false := by kernel_rfl
theorem good235 : GoodAt Tryz.prog tyn ibn i235 af235 := goodAt Tryz.func235 tr235 nm235 rfl
def af236 : AFunc := ⟨[.tmp i2, .tmp i3, .tmp i4], (.seq (.region [⟨(some i2), none, .move (.c (.int .i64 (.ofNat 0)))⟩, ⟨(some i3), none, .move (.c (.bool false))⟩, ⟨(some i4), none, .move (.c (.bool false))⟩])
  (.seq (.seq (.region [⟨(some i9), none, .move (.t i0)⟩, ⟨(some i10), none, .bin (.eq .ptr) (.t i9) (.c .nilptr)⟩, ⟨(some i11), none, .move (.t i10)⟩, ⟨(some i12), (some (i11, false)), .move (.t i0)⟩, ⟨(some i13), (some (i11, false)), .call i166 [(.t i12)]⟩, ⟨(some i14), (some (i11, false)), .not (.t i13)⟩, ⟨(some i15), none, .pick (.t i11) (.c (.bool true)) (.t i14)⟩])
  (.cond (.t i15) (.seq (.region [⟨(some i2), none, .move (.c (.int .i64 (.ofNat 0)))⟩, ⟨(some i3), none, .move (.c (.bool false))⟩, ⟨(some i4), none, .move (.c (.bool false))⟩])
  .ret)
  .skip))
  (.seq (.seq (.region [⟨(some i16), none, .buildSlice [(.bool false), (.bool false)] 2 [(0, 1, (.c (.bool false))), (1, 1, (.c (.bool true)))]⟩, ⟨(some i17), none, .lenSl (.t i16)⟩, ⟨(some i18), none, .move (.c (.int .i64 (.ofNat 0)))⟩])
  (.block 0 (.loop (.seq (.region [⟨(some i19), none, .bin .lss (.t i18) (.t i17)⟩])
  (.seq (.cond (.t i19) .skip
  (.exit 0))
  (.seq (.block 1 (.seq (.region [⟨(some i20), none, .indexSl 1 (.t i16) (.t i18)⟩, ⟨(some i21), none, .load none (.t i20)⟩, ⟨(some i6), none, .move (.t i21)⟩])
  (.seq (.region [⟨(some i23), none, .move (.t i0)⟩, ⟨(some i24), none, .move (.t i6)⟩, ⟨(some i25), none, .call i192 [(.t i23), (.t i24)]⟩, ⟨(some i22), none, .move (.t i25)⟩, ⟨(some i26), none, .extract 0 (.t i22)⟩, ⟨(some i27), none, .extract 1 (.t i22)⟩, ⟨(some i7), none, .move (.t i26)⟩, ⟨(some i8), none, .move (.t i27)⟩])
  (.seq (.region [⟨(some i28), none, .move (.t i8)⟩])
  (.cond (.t i28) (.seq (.region [⟨(some i29), none, .move (.t i7)⟩, ⟨(some i30), none, .move (.t i6)⟩, ⟨(some i2), none, .move (.t i29)⟩, ⟨(some i3), none, .move (.t i30)⟩, ⟨(some i4), none, .move (.c (.bool true))⟩])
  .ret)
  .skip)))))
  (.region [⟨(some i31), none, .bin .add (.t i18) (.c (.int .i64 (.ofNat 1)))⟩, ⟨(some i18), none, .move (.t i31)⟩])))))))
  (.seq (.region [⟨(some i2), none, .move (.c (.int .i64 (.ofNat 0)))⟩, ⟨(some i3), none, .move (.c (.bool false))⟩, ⟨(some i4), none, .move (.c (.bool false))⟩])
  .ret))))⟩
theorem tr236 : trFunc (tyIn Tryz.prog tyn) ibn Tryz.f236 = some af236 := by kernel_rfl
theorem nm236 : (Tryz.f236.name == "runtime.NumGoroutine") = false := by kernel_rfl
theorem good236 : GoodAt Tryz.prog tyn ibn i236 af236 := goodAt Tryz.func236 tr236 nm236 rfl
def af237 : AFunc := ⟨[], (.seq (.seq (.region [⟨(some i4), none, .move (.t i0)⟩, ⟨(some i5), none, .move (.t i1)⟩, ⟨(some i6), none, .call i215 [(.t i4), (.t i5)]⟩, ⟨(some i7), none, .not (.t i6)⟩])
  (.cond (.t i7) .ret
  .skip))
  (.seq (.seq (.region [⟨(some i8), none, .move (.t i1)⟩, ⟨(some i9), none, .nilCheck (.t i8)⟩, ⟨(some i10), none, .fieldAddr 19 (.t i9)⟩, ⟨(some i11), none, .fieldAddr 2 (.t i10)⟩, ⟨(some i12), none, .load none (.t i11)⟩])
  (.cond (.t i12) (.seq (.drawn [⟨0, .v, ⟨(some i13), none, .move (.t i0)⟩⟩, ⟨1, .v, ⟨(some i14), none, .move (.t i1)⟩⟩, ⟨2, .v, ⟨(some i15), none, .nilCheck (.t i14)⟩⟩, ⟨3, .v, ⟨(some i16), none, .fieldAddr 19 (.t i15)⟩⟩, ⟨4, .v, ⟨(some i17), none, .fieldAddr 0 (.t i16)⟩⟩, ⟨5, (.r 0), ⟨(some i18), none, .load none (.t i17)⟩⟩, ⟨6, .v, ⟨(some i19), none, .move (.t i1)⟩⟩, ⟨7, .v, ⟨(some i20), none, .nilCheck (.t i19)⟩⟩, ⟨8, .v, ⟨(some i21), none, .fieldAddr 9 (.t i20)⟩⟩, ⟨9, (.r 0), ⟨(some i22), none, .load none (.t i21)⟩⟩, ⟨10, .e, ⟨(some i23), none, .call i130 [(.t i13), (.t i18), (.t i22), (.c (.int .i64 (.ofNat 140)))]⟩⟩])
  .ret)
  .skip))
  (.seq (.drawn [⟨0, .v, ⟨(some i24), none, .move (.t i0)⟩⟩, ⟨1, .v, ⟨(some i25), none, .move (.t i1)⟩⟩, ⟨2, .v, ⟨(some i26), none, .nilCheck (.t i25)⟩⟩, ⟨3, .v, ⟨(some i27), none, .fieldAddr 19 (.t i26)⟩⟩, ⟨4, .v, ⟨(some i28), none, .fieldAddr 0 (.t i27)⟩⟩, ⟨5, (.r 0), ⟨(some i29), none, .load none (.t i28)⟩⟩, ⟨6, .v, ⟨(some i30), none, .move (.t i1)⟩⟩, ⟨7, .v, ⟨(some i31), none, .nilCheck (.t i30)⟩⟩, ⟨8, .v, ⟨(some i32), none, .fieldAddr 9 (.t i31)⟩⟩, ⟨9, (.r 0), ⟨(some i33), none, .load none (.t i32)⟩⟩, ⟨10, .v, ⟨(some i34), none, .move (.t i1)⟩⟩, ⟨11, .v, ⟨(some i35), none, .nilCheck (.t i34)⟩⟩, ⟨12, .v, ⟨(some i36), none, .fieldAddr 11 (.t i35)⟩⟩, ⟨13, .v, ⟨(some i37), none, .fieldAddr 2 (.t i36)⟩⟩, ⟨14, (.r 0), ⟨(some i38), none, .load none (.t i37)⟩⟩, ⟨15, .v, ⟨(some i39), none, .move (.t i1)⟩⟩, ⟨16, .v, ⟨(some i40), none, .nilCheck (.t i39)⟩⟩, ⟨17, .v, ⟨(some i41), none, .fieldAddr 19 (.t i40)⟩⟩, ⟨18, .v, ⟨(some i42), none, .fieldAddr 1 (.t i41)⟩⟩, ⟨19, (.r 0), ⟨(some i43), none, .load none (.t i42)⟩⟩, ⟨20, .v, ⟨(some i44), none, .build [(.int .i64 (.ofNat 0)), (.int .u8 (.ofNat 0)), (.int .i64 (.ofNat 0)), (.int .i64 (.ofNat 0)), (.int .i64 (.ofNat 0)), (.int .i64 (.ofNat 0)), (.int .i64 (.ofNat 0)), (.int .i64 (.ofNat 0)), (.int .i64 (.ofNat 0)), (.int .i64 (.ofNat 0)), (.bool false), (.int .i64 (.ofNat 0)), (.int .u64 (.ofNat 0))] [(1, 1, (.c (.int .u8 (.ofNat 6)))), (3, 1, (.t i29)), (4, 1, (.t i33)), (5, 1, (.t i38)), (6, 1, (.t i43))]⟩⟩, ⟨21, .e, ⟨(some i45), none, .call i93 [(.t i24), (.t i44)]⟩⟩])
  (.region [⟨(some i46), none, .move (.t i1)⟩, ⟨(some i47), none, .nilCheck (.t i46)⟩, ⟨(some i48), none, .fieldAddr 1 (.t i47)⟩, ⟨none, none, .store none (.t i48) (.c (.fn i259 [] []))⟩]))))⟩
theorem tr237 : trFunc (tyIn Tryz.prog tyn) ibn Tryz.f237 = some af237 := by kernel_rfl
theorem nm237 : (Tryz.f237.name == "runtime.NumGoroutine") = false := by kernel_rfl
theorem good237 : GoodAt Tryz.prog tyn ibn i237 af237 := goodAt Tryz.func237 tr237 nm237 rfl
def af238 : AFunc := ⟨[], (.region [⟨(some i4), none, .load none (.t i1)⟩, ⟨(some i5), none, .nilCheck (.t i4)⟩, ⟨(some i6), none, .fieldAddr 0 (.t i5)⟩, ⟨(some i7), none, .fieldAddr 0 (.t i6)⟩, ⟨(some i8), none, .load none (.t i7)⟩, ⟨(some i9), none, .move (.t i0)⟩, ⟨(some i10), none, .call i230 [(.t i8), (.t i9)]⟩, ⟨none, none, .store none (.t i2) (.t i10)⟩])⟩
theorem tr238 : trFunc (tyIn Tryz.prog tyn) ibn Tryz.f238 = some af238 := by kernel_rfl
theorem nm238 : (Tryz.f238.name == "runtime.NumGoroutine") = false := by kernel_rfl
theorem good238 : GoodAt Tryz.prog tyn ibn i238 af238 := goodAt Tryz.func238 tr238 nm238 rfl
def af239 : AFunc := ⟨[.tmp i2], (.seq (.region [⟨(some i2), none, .move (.c (.int .u64 (.ofNat 0)))⟩])
  (.seq (.seq (.region [⟨(some i3), none, .move (.t i0)⟩, ⟨(some i4), none, .bin .geq (.t i3) (.c (.int .i64 (.ofNat 0)))⟩, ⟨(some i5), none, .move (.t i4)⟩, ⟨(some i6), (some (i5, true)), .move (.t i0)⟩, ⟨(some i7), (some (i5, true)), .bin .lss (.t i6) (.c (.int .i64 (.ofNat 64)))⟩, ⟨(some i8), none, .pick (.t i5) (.t i7) (.c (.bool false))⟩])
  (.cond (.t i8) (.seq (.region [⟨(some i9), none, .move (.t i0)⟩, ⟨(some i10), none, .bin .shl (.c (.int .u64 (.ofNat 1))) (.t i9)⟩, ⟨(some i2), none, .move (.t i10)⟩])
  .ret)
  .skip))
  (.seq (.region [⟨(some i2), none, .move (.c (.int .u64 (.ofNat 0)))⟩])
  .ret)))⟩
theorem tr239 : trFunc (tyIn Tryz.prog tyn) ibn Tryz.f239 = some af239 := by kernel_rfl
theorem nm239 : (Tryz.f239.name == "runtime.NumGoroutine") = false := by kernel_rfl
theorem good239 : GoodAt Tryz.prog tyn ibn i239 af239 := goodAt Tryz.func239 tr239 nm239 rfl
def af240 : AFunc := ⟨[.tmp i8, .tmp i9], (.seq (.region [⟨(some i8), none, .move (.c (.int .i64 (.ofNat 0)))⟩, ⟨(some i9), none, .move (.c (.bool false))⟩])
  (.seq (.region [⟨(some i10), none, .move (.t i0)⟩, ⟨(some i11), none, .move (.t i1)⟩, ⟨(some i12), none, .move (.t i2)⟩, ⟨(some i13), none, .call i260 [(.t i10), (.t i11), (.t i12)]⟩, ⟨(some i14), none, .move (.t i3)⟩, ⟨(some i15), none, .call i261 [(.t i13), (.t i14)]⟩, ⟨(some i16), none, .extract 0 (.t i15)⟩, ⟨(some i17), none, .extract 1 (.t i15)⟩, ⟨(some i8), none, .move (.t i16)⟩, ⟨(some i9), none, .move (.t i17)⟩])
  .ret))⟩
theorem tr240 : trFunc (tyIn Tryz.prog tyn) ibn Tryz.f240 = some af240 := by kernel_rfl
theorem nm240 : (Tryz.f240.name == "runtime.NumGoroutine") = false := by kernel_rfl
theorem good240 : GoodAt Tryz.prog tyn ibn i240 af240 := goodAt Tryz.func240 tr240 nm240 rfl
def af241 : AFunc := ⟨[.tmp i4], (.seq (.region [⟨(some i4), none, .move (.c (.int .u64 (.ofNat 0)))⟩])
  (.seq (.region [⟨(some i5), none, .move (.t i0)⟩, ⟨(some i6), none, .move (.t i1)⟩, ⟨(some i7), none, .call i239 [(.t i6)]⟩, ⟨(some i8), none, .bin .andNot (.t i5) (.t i7)⟩, ⟨(some i4), none, .move (.t i8)⟩])
  .ret))⟩
theorem tr241 : trFunc (tyIn Tryz.prog tyn) ibn Tryz.f241 = some af241 := by kernel_rfl
theorem nm241 : (Tryz.f241.name == "runtime.NumGoroutine") = false := by kernel_rfl
theorem good241 : GoodAt Tryz.prog tyn ibn i241 af241 := goodAt Tryz.func241 tr241 nm241 rfl
def af242 : AFunc := ⟨[.tmp i2], (.seq (.region [⟨(some i2), none, .move (.c .nilslice)⟩])
  (.seq (.seq (.region [⟨(some i3), none, .move (.t i0)⟩, ⟨(some i4), none, .bin (.eq .ptr) (.t i3) (.c .nilptr)⟩])
  (.cond (.t i4) (.seq (.region [⟨(some i2), none, .move (.c .nilslice)⟩])
  .ret)
  .skip))
  (.seq (.drawn [⟨0, .v, ⟨(some i5), none, .move (.t i0)⟩⟩, ⟨1, .v, ⟨(some i6), none, .nilCheck (.t i5)⟩⟩, ⟨2, .v, ⟨(some i7), none, .fieldAddr 0 (.t i6)⟩⟩, ⟨3, .v, ⟨(some i8), none, .move (.t i0)⟩⟩, ⟨4, .v, ⟨(some i9), none, .nilCheck (.t i8)⟩⟩, ⟨5, .v, ⟨(some i10), none, .fieldAddr 6 (.t i9)⟩⟩, ⟨6, (.r 0), ⟨(some i11), none, .load none (.t i10)⟩⟩, ⟨7, .v, ⟨(some i12), none, .sliceArr 6 1 (.t i7) none (some (.t i11)) none⟩⟩, ⟨8, .v, ⟨(some i2), none, .move (.t i12)⟩⟩])
  .ret)))⟩
theorem tr242 : trFunc (tyIn Tryz.prog tyn) ibn Tryz.f242 = some af242 := by kernel_rfl
theorem nm242 : (Tryz.f242.name == "runtime.NumGoroutine") = false := by kernel_rfl
theorem good242 : GoodAt Tryz.prog tyn ibn i242 af242 := goodAt Tryz.func242 tr242 nm242 rfl
def af243 : AFunc := ⟨[.tmp i4], (.seq (.region [⟨(some i4), none, .move (.c (.int .i64 (.ofNat 0)))⟩])
  (.seq (.seq (.region [⟨(some i6), none, .move (.t i0)⟩, ⟨(some i7), none, .lenSl (.t i6)⟩, ⟨(some i8), none, .move (.c (.int .i64 (.ofNat 0)))⟩])
  (.block 0 (.loop (.seq (.region [⟨(some i9), none, .bin .lss (.t i8) (.t i7)⟩])
  (.seq (.cond (.t i9) .skip
  (.exit 0))
  (.seq (.block 1 (.seq (.region [⟨(some i10), none, .move (.t i8)⟩, ⟨(some i5), none, .move (.t i10)⟩])
  (.seq (.region [⟨(some i11), none, .move (.t i1)⟩, ⟨(some i12), none, .move (.t i0)⟩, ⟨(some i13), none, .move (.t i5)⟩, ⟨(some i14), none, .indexSl 1 (.t i12) (.t i13)⟩, ⟨(some i15), none, .load none (.t i14)⟩, ⟨(some i16), none, .bin (.eq .int) (.t i11) (.t i15)⟩])
  (.cond (.t i16) (.seq (.region [⟨(some i17), none, .move (.t i5)⟩, ⟨(some i4), none, .move (.t i17)⟩])
  .ret)
  .skip))))
  (.region [⟨(some i18), none, .bin .add (.t i8) (.c (.int .i64 (.ofNat 1)))⟩, ⟨(some i8), none, .move (.t i18)⟩])))))))
  (.seq (.region [⟨(some i4), none, .move (.c (.int .i64 (.negSucc 0)))⟩])
  .ret)))⟩
theorem tr243 : trFunc (tyIn Tryz.prog tyn) ibn Tryz.f243 = some af243 := by kernel_rfl
theorem nm243 : (Tryz.f243.name == "runtime.NumGoroutine") = false := by kernel_rfl
theorem good243 : GoodAt Tryz.prog tyn ibn i243 af243 := goodAt Tryz.func243 tr243 nm243 rfl
def af244 : AFunc := ⟨[], (.seq (.region [⟨(some i7), none, .load none (.t i1)⟩, ⟨(some i8), none, .lenSl (.t i7)⟩, ⟨(some i9), none, .move (.c (.int .i64 (.ofNat 0)))⟩])
  (.block 0 (.loop (.seq (.region [⟨(some i10), none, .bin .lss (.t i9) (.t i8)⟩])
  (.seq (.cond (.t i10) .skip
  (.exit 0))
  (.seq (.block 1 (.seq (.region [⟨(some i11), none, .indexSl 2 (.t i7) (.t i9)⟩, ⟨(some i12), none, .load (some 2) (.t i11)⟩, ⟨(some i4), none, .alloc [.nilslice, (.bool false)]⟩, ⟨none, none, .store (some 2) (.t i4) (.t i12)⟩])
  (.seq (.region [⟨(some i13), none, .fieldAddr 0 (.t i4)⟩, ⟨(some i14), none, .load none (.t i13)⟩, ⟨(some i15), none, .lenSl (.t i14)⟩, ⟨(some i16), none, .move (.c (.int .i64 (.ofNat 0)))⟩])
  (.block 2 (.loop (.seq (.region [⟨(some i17), none, .bin .lss (.t i16) (.t i15)⟩])
  (.seq (.cond (.t i17) .skip
  (.exit 2))
  (.seq (.block 3 (.seq (.region [⟨(some i18), none, .move (.t i16)⟩, ⟨(some i19), none, .indexSl 4 (.t i14) (.t i16)⟩, ⟨(some i20), none, .load (some 4) (.t i19)⟩, ⟨(some i6), none, .alloc [(.bool false), (.int .i64 (.ofNat 0)), (.int .i64 (.ofNat 0)), (.int .i64 (.ofNat 0))]⟩, ⟨(some i5), none, .move (.t i18)⟩, ⟨none, none, .store (some 4) (.t i6) (.t i20)⟩])
  (.seq (.region [⟨(some i21), none, .move (.t i0)⟩, ⟨(some i22), none, .move (.t i5)⟩, ⟨(some i23), none, .load (some 4) (.t i6)⟩, ⟨(some i24), none, .callv (.t i21) [(.t i22), (.t i23)]⟩, ⟨(some i25), none, .not (.t i24)⟩])
  (.cond (.t i25) .ret
  .skip))))
  (.region [⟨(some i26), none, .bin .add (.t i16) (.c (.int .i64 (.ofNat 1)))⟩, ⟨(some i16), none, .move (.t i26)⟩])))))))))
  (.region [⟨(some i27), none, .bin .add (.t i9) (.c (.int .i64 (.ofNat 1)))⟩, ⟨(some i9), none, .move (.t i27)⟩])))))))⟩
theorem tr244 : trFunc (tyIn Tryz.prog tyn) ibn Tryz.f244 = some af244 := by kernel_rfl
theorem nm244 : (Tryz.f244.name == "runtime.NumGoroutine") = false := by kernel_rfl
theorem good244 : GoodAt Tryz.prog tyn ibn i244 af244 := goodAt Tryz.func244 tr244 nm244 rfl
def af245 : AFunc := ⟨[.tmp i2], (.seq (.region [⟨(some i2), none, .move (.c .nilslice)⟩])
  (.seq (.region [⟨(some i4), none, .move (.t i0)⟩, ⟨(some i5), none, .call i262 [(.t i4)]⟩, ⟨(some i3), none, .move (.t i5)⟩])
  (.seq (.region [⟨(some i6), none, .move (.t i3)⟩, ⟨(some i7), none, .call i263 [(.t i6)]⟩])
  (.seq (.region [⟨(some i8), none, .move (.t i3)⟩, ⟨(some i2), none, .move (.t i8)⟩])
  .ret))))⟩
theorem tr245 : trFunc (tyIn Tryz.prog tyn) ibn Tryz.f245 = some af245 := by kernel_rfl
theorem nm245 : (Tryz.f245.name == "runtime.NumGoroutine") = false := by kernel_rfl
theorem good245 : GoodAt Tryz.prog tyn ibn i245 af245 := goodAt Tryz.func245 tr245 nm245 rfl
def af246 : AFunc := ⟨[.tmp i2], (.seq (.region [⟨(some i1), none, .box (.t i0)⟩, ⟨(some i2), none, .move (.c .nilfn)⟩])
  (.seq (.region [⟨(some i3), none, .mkfn i264 [] [(.t i1)]⟩, ⟨(some i2), none, .move (.t i3)⟩])
  .ret))⟩
theorem tr246 : trFunc (tyIn Tryz.prog tyn) ibn Tryz.f246 = some af246 := by kernel_rfl
theorem nm246 : (Tryz.f246.name == "runtime.NumGoroutine") = false := by kernel_rfl
theorem good246 : GoodAt Tryz.prog tyn ibn i246 af246 := goodAt Tryz.func246 tr246 nm246 rfl
def af247 : AFunc := ⟨[.cell i6 none], (.seq (.region [⟨(some i3), none, .box (.t i0)⟩, ⟨(some i5), none, .box (.t i2)⟩, ⟨(some i6), none, .alloc [(.bool false)]⟩])
  (.seq (.region [⟨(some i7), none, .load none (.t i3)⟩, ⟨(some i8), none, .move (.t i1)⟩, ⟨(some i9), none, .mkfn i265 [] [(.t i5), (.t i3), (.t i6)]⟩, ⟨(some i10), none, .call i228 [(.t i7), (.t i8), (.t i9)]⟩])
  (.seq (.region [⟨(some i11), none, .load none (.t i6)⟩, ⟨none, none, .store none (.t i6) (.t i11)⟩])
  .ret)))⟩
theorem tr247 : trFunc (tyIn Tryz.prog tyn) ibn Tryz.f247 = some af247 := by kernel_rfl
theorem nm247 : (Tryz.f247.name == "runtime.NumGoroutine") = false := by kernel_rfl
theorem good247 : GoodAt Tryz.prog tyn ibn i247 af247 := goodAt Tryz.func247 tr247 nm247 rfl
def af248 : AFunc := ⟨[.tmp i2], (.seq (.region [⟨(some i2), none, .move (.c (.int .i64 (.ofNat 0)))⟩])
  (.seq (.region [⟨(some i3), none, .move (.t i0)⟩, ⟨(some i4), none, .call i249 [(.t i3)]⟩, ⟨(some i5), none, .call i267 [(.t i4)]⟩, ⟨(some i2), none, .move (.t i5)⟩])
  .ret))⟩
theorem tr248 : trFunc (tyIn Tryz.prog tyn) ibn Tryz.f248 = some af248 := by kernel_rfl
theorem nm248 : (Tryz.f248.name == "runtime.NumGoroutine") = false := by kernel_rfl
theorem good248 : GoodAt Tryz.prog tyn ibn i248 af248 := goodAt Tryz.func248 tr248 nm248 rfl
def af249 : AFunc := ⟨[.tmp i2], (.seq (.region [⟨(some i2), none, .move (.c .nilptr)⟩])
  (.seq (.seq (.region [⟨(some i3), none, .move (.t i0)⟩, ⟨(some i4), none, .bin (.eq .ptr) (.t i3) (.c .nilptr)⟩])
  (.cond (.t i4) (.seq (.region [⟨(some i2), none, .move (.c .nilptr)⟩])
  .ret)
  .skip))
  (.seq (.region [⟨(some i5), none, .move (.t i0)⟩, ⟨(some i6), none, .nilCheck (.t i5)⟩, ⟨(some i7), none, .fieldAddr 0 (.t i6)⟩, ⟨(some i8), none, .load none (.t i7)⟩, ⟨(some i2), none, .move (.t i8)⟩])
  .ret)))⟩
theorem tr249 : trFunc (tyIn Tryz.prog tyn) ibn Tryz.f249 = some af249 := by kernel_rfl
theorem nm249 : (Tryz.f249.name == "runtime.NumGoroutine") = false := by kernel_rfl
theorem good249 : GoodAt Tryz.prog tyn ibn i249 af249 := goodAt Tryz.func249 tr249 nm249 rfl
def af250 : AFunc := ⟨[.tmp i2, .tmp i3], (.seq (.region [⟨(some i2), none, .move (.c (.int .i64 (.ofNat 0)))⟩, ⟨(some i3), none, .move (.c (.bool false))⟩])
  (.seq (.seq (.region [⟨(some i4), none, .move (.t i0)⟩, ⟨(some i5), none, .bin (.eq .ptr) (.t i4) (.c .nilptr)⟩, ⟨(some i6), none, .move (.t i5)⟩, ⟨(some i7), (some (i6, false)), .move (.t i0)⟩, ⟨(some i8), (some (i6, false)), .nilCheck (.t i7)⟩, ⟨(some i9), (some (i6, false)), .fieldAddr 10 (.t i8)⟩, ⟨(some i10), (some (i6, false)), .load none (.t i9)⟩, ⟨(some i11), (some (i6, false)), .bin (.eq .int) (.t i10) (.c (.int .i64 (.ofNat 0)))⟩, ⟨(some i12), none, .pick (.t i6) (.c (.bool true)) (.t i11)⟩])
  (.cond (.t i12) (.seq (.region [⟨(some i2), none, .move (.c (.int .i64 (.ofNat 0)))⟩, ⟨(some i3), none, .move (.c (.bool false))⟩])
  .ret)
  .skip))
  (.seq (.drawn [⟨0, .v, ⟨(some i13), none, .move (.t i0)⟩⟩, ⟨1, .v, ⟨(some i14), none, .move (.t i0)⟩⟩, ⟨2, .v, ⟨(some i15), none, .nilCheck (.t i14)⟩⟩, ⟨3, .v, ⟨(some i16), none, .fieldAddr 9 (.t i15)⟩⟩, ⟨4, (.r 0), ⟨(some i17), none, .load none (.t i16)⟩⟩, ⟨5, .v, ⟨(some i18), none, .nilCheck (.t i13)⟩⟩, ⟨6, .v, ⟨(some i19), none, .fieldAddr 0 (.t i18)⟩⟩, ⟨7, .v, ⟨(some i20), none, .indexArr 8 1 (.t i19) (.t i17)⟩⟩, ⟨8, (.r 0), ⟨(some i21), none, .load none (.t i20)⟩⟩, ⟨9, .v, ⟨(some i2), none, .move (.t i21)⟩⟩, ⟨10, .v, ⟨(some i3), none, .move (.c (.bool true))⟩⟩])
  .ret)))⟩
theorem tr250 : trFunc (tyIn Tryz.prog tyn) ibn Tryz.f250 = some af250 := by kernel_rfl
theorem nm250 : (Tryz.f250.name == "runtime.NumGoroutine") = false := by kernel_rfl
theorem good250 : GoodAt Tryz.prog tyn ibn i250 af250 := goodAt Tryz.func250 tr250 nm250 rfl
def af251 : AFunc := ⟨[], (.seq (.region [⟨(some i5), none, .move (.t i1)⟩, ⟨(some i6), none, .nilCheck (.t i5)⟩, ⟨(some i7), none, .fieldAddr 19 (.t i6)⟩, ⟨(some i8), none, .fieldAddr 1 (.t i7)⟩, ⟨(some i9), none, .load none (.t i8)⟩, ⟨(some i10), none, .build [(.int .i64 (.ofNat 0)), (.int .i64 (.ofNat 0)), (.bool false), (.int .i64 (.ofNat 0))] [(0, 1, (.t i9))]⟩, ⟨(some i4), none, .alloc [(.int .i64 (.ofNat 0)), (.int .i64 (.ofNat 0)), (.bool false), (.int .i64 (.ofNat 0))]⟩, ⟨none, none, .store (some 4) (.t i4) (.t i10)⟩])
  (.seq (.seq (.region [⟨(some i11), none, .move (.t i1)⟩, ⟨(some i12), none, .nilCheck (.t i11)⟩, ⟨(some i13), none, .fieldAddr 11 (.t i12)⟩, ⟨(some i14), none, .fieldAddr 1 (.t i13)⟩, ⟨(some i15), none, .load none (.t i14)⟩])
  (.cond (.t i15) (.region [⟨(some i16), none, .move (.t i1)⟩, ⟨(some i17), none, .nilCheck (.t i16)⟩, ⟨(some i18), none, .fieldAddr 11 (.t i17)⟩, ⟨(some i19), none, .fieldAddr 3 (.t i18)⟩, ⟨(some i20), none, .load none (.t i19)⟩, ⟨(some i21), none, .fieldAddr 1 (.t i4)⟩, ⟨none, none, .store none (.t i21) (.t i20)⟩, ⟨(some i22), none, .fieldAddr 2 (.t i4)⟩, ⟨none, none, .store none (.t i22) (.c (.bool true))⟩])
  .skip))
  (.seq (.region [⟨(some i23), none, .move (.t i0)⟩, ⟨(some i24), none, .move (.t i1)⟩, ⟨(some i25), none, .load (some 4) (.t i4)⟩, ⟨(some i26), none, .call i268 [(.t i23), (.t i24), (.t i25)]⟩])
  (.region [⟨(some i27), none, .move (.t i1)⟩, ⟨(some i28), none, .call i79 [(.t i27), (.c (.fn i154 [] []))]⟩]))))⟩
theorem tr251 : trFunc (tyIn Tryz.prog tyn) ibn Tryz.f251 = some af251 := by kernel_rfl
theorem nm251 : (Tryz.f251.name == "runtime.NumGoroutine") = false := by kernel_rfl
theorem good251 : GoodAt Tryz.prog tyn ibn i251 af251 := goodAt Tryz.func251 tr251 nm251 rfl
def af252 : AFunc := ⟨[], (.seq (.drawn [⟨0, .v, ⟨(some i4), none, .move (.t i0)⟩⟩, ⟨1, .v, ⟨(some i5), none, .move (.t i1)⟩⟩, ⟨2, .e, ⟨(some i6), none, .call i162 [(.t i4), (.t i5)]⟩⟩, ⟨3, .v, ⟨(some i7), none, .move (.t i1)⟩⟩, ⟨4, .v, ⟨(some i8), none, .nilCheck (.t i7)⟩⟩, ⟨5, .v, ⟨(some i9), none, .fieldAddr 19 (.t i8)⟩⟩, ⟨6, .v, ⟨(some i10), none, .fieldAddr 3 (.t i9)⟩⟩, ⟨7, (.r 1), ⟨(some i11), none, .load none (.t i10)⟩⟩, ⟨8, .e, ⟨(some i12), none, .call i269 [(.t i6), (.t i11)]⟩⟩])
  (.region [⟨(some i13), none, .move (.t i1)⟩, ⟨(some i14), none, .nilCheck (.t i13)⟩, ⟨(some i15), none, .fieldAddr 1 (.t i14)⟩, ⟨none, none, .store none (.t i15) (.c (.fn i251 [] []))⟩]))⟩
theorem tr252 : trFunc (tyIn Tryz.prog tyn) ibn Tryz.f252 = some af252 := by kernel_rfl
theorem nm252 : (Tryz.f252.name == "runtime.NumGoroutine") = false := by kernel_rfl
theorem good252 : GoodAt Tryz.prog tyn ibn i252 af252 := goodAt Tryz.func252 tr252 nm252 rfl
def af253 : AFunc := ⟨[.tmp i4], (.seq (.region [⟨(some i4), none, .move (.c (.int .i64 (.ofNat 0)))⟩])
  (.seq (.block 0 (.seq (.region [⟨(some i6), none, .move (.t i0)⟩, ⟨(some i7), none, .bin (.eq .ptr) (.t i6) (.c .nilptr)⟩, ⟨(some i5), none, .move (.t i7)⟩])
  (.cond (.t i5) (.seq (.region [⟨(some i4), none, .move (.c (.int .i64 (.ofNat 1)))⟩])
  .ret)
  (.seq (.drawn [⟨0, .v, ⟨(some i9), none, .move (.t i0)⟩⟩, ⟨1, .v, ⟨(some i10), none, .nilCheck (.t i9)⟩⟩, ⟨2, .v, ⟨(some i11), none, .fieldAddr 10 (.t i10)⟩⟩, ⟨3, (.r 0), ⟨(some i12), none, .load none (.t i11)⟩⟩, ⟨4, .v, ⟨(some i13), none, .move (.t i0)⟩⟩, ⟨5, .v, ⟨(some i14), none, .nilCheck (.t i13)⟩⟩, ⟨6, .v, ⟨(some i15), none, .fieldAddr 8 (.t i14)⟩⟩, ⟨7, (.r 0), ⟨(some i16), none, .load none (.t i15)⟩⟩, ⟨8, .v, ⟨(some i17), none, .bin .geq (.t i12) (.t i16)⟩⟩, ⟨9, .v, ⟨(some i8), none, .move (.t i17)⟩⟩])
  (.cond (.t i8) (.seq (.region [⟨(some i4), none, .move (.c (.int .i64 (.ofNat 4)))⟩])
  .ret)
  .skip)))))
  (.seq (.drawn [⟨1, .v, ⟨(some i19), none, .move (.t i0)⟩⟩, ⟨2, .e, ⟨(some i20), none, .call i270 [(.t i19)]⟩⟩, ⟨3, .v, ⟨(some i21), none, .move (.t i0)⟩⟩, ⟨4, .v, ⟨(some i22), none, .nilCheck (.t i21)⟩⟩, ⟨5, .v, ⟨(some i23), none, .fieldAddr 10 (.t i22)⟩⟩, ⟨6, (.r 1), ⟨(some i24), none, .load none (.t i23)⟩⟩, ⟨7, .e, ⟨(some i25), none, .callv (.t i20) [(.t i24)]⟩⟩, ⟨0, .v, ⟨(some i18), none, .move (.t i0)⟩⟩, ⟨8, .v, ⟨(some i26), none, .move (.t i1)⟩⟩, ⟨9, .v, ⟨(some i27), none, .nilCheck (.t i18)⟩⟩, ⟨10, .v, ⟨(some i28), none, .fieldAddr 0 (.t i27)⟩⟩, ⟨11, .v, ⟨(some i29), none, .indexArr 8 1 (.t i28) (.t i25)⟩⟩, ⟨12, .e, ⟨none, none, .store none (.t i29) (.t i26)⟩⟩])
  (.seq (.region [⟨(some i30), none, .move (.t i0)⟩, ⟨(some i31), none, .nilCheck (.t i30)⟩, ⟨(some i32), none, .fieldAddr 10 (.t i31)⟩, ⟨(some i33), none, .load none (.t i32)⟩, ⟨(some i34), none, .bin .add (.t i33) (.c (.int .i64 (.ofNat 1)))⟩, ⟨(some i35), none, .nilCheck (.t i30)⟩, ⟨(some i36), none, .fieldAddr 10 (.t i35)⟩, ⟨none, none, .store none (.t i36) (.t i34)⟩])
  (.seq (.region [⟨(some i4), none, .move (.c (.int .i64 (.ofNat 0)))⟩])
  .ret)))))⟩
theorem tr253 : trFunc (tyIn Tryz.prog tyn) ibn Tryz.f253 = some af253 := by kernel_rfl
theorem nm253 : (Tryz.f253.name == "runtime.NumGoroutine") = false := by kernel_rfl
theorem good253 : GoodAt Tryz.prog tyn ibn i253 af253 := goodAt Tryz.func253 tr253 nm253 rfl
def af254 : AFunc := ⟨[.tmp i2, .tmp i3], (.seq (.region [⟨(some i2), none, .move (.c (.int .i64 (.ofNat 0)))⟩, ⟨(some i3), none, .move (.c (.int .i64 (.ofNat 0)))⟩])
  (.seq (.block 0 (.seq (.region [⟨(some i7), none, .move (.t i0)⟩, ⟨(some i8), none, .bin (.eq .ptr) (.t i7) (.c .nilptr)⟩, ⟨(some i6), none, .move (.t i8)⟩])
  (.cond (.t i6) (.seq (.region [⟨(some i2), none, .move (.c (.int .i64 (.ofNat 0)))⟩, ⟨(some i3), none, .move (.c (.int .i64 (.ofNat 1)))⟩])
  .ret)
  (.seq (.region [⟨(some i10), none, .move (.t i0)⟩, ⟨(some i11), none, .nilCheck (.t i10)⟩, ⟨(some i12), none, .fieldAddr 10 (.t i11)⟩, ⟨(some i13), none, .load none (.t i12)⟩, ⟨(some i14), none, .bin (.eq .int) (.t i13) (.c (.int .i64 (.ofNat 0)))⟩, ⟨(some i9), none, .move (.t i14)⟩])
  (.cond (.t i9) (.seq (.region [⟨(some i2), none, .move (.c (.int .i64 (.ofNat 0)))⟩, ⟨(some i3), none, .move (.c (.int .i64 (.ofNat 3)))⟩])
  .ret)
  .skip)))))
  (.seq (.region [⟨(some i15), none, .move (.t i0)⟩, ⟨(some i16), none, .call i270 [(.t i15)]⟩, ⟨(some i4), none, .move (.t i16)⟩])
  (.seq (.drawn [⟨0, .v, ⟨(some i17), none, .move (.t i0)⟩⟩, ⟨1, .v, ⟨(some i18), none, .move (.t i0)⟩⟩, ⟨2, .v, ⟨(some i19), none, .nilCheck (.t i18)⟩⟩, ⟨3, .v, ⟨(some i20), none, .fieldAddr 9 (.t i19)⟩⟩, ⟨4, (.r 0), ⟨(some i21), none, .load none (.t i20)⟩⟩, ⟨5, .v, ⟨(some i22), none, .nilCheck (.t i17)⟩⟩, ⟨6, .v, ⟨(some i23), none, .fieldAddr 0 (.t i22)⟩⟩, ⟨7, .v, ⟨(some i24), none, .indexArr 8 1 (.t i23) (.t i21)⟩⟩, ⟨8, (.r 0), ⟨(some i25), none, .load none (.t i24)⟩⟩, ⟨9, .v, ⟨(some i5), none, .move (.t i25)⟩⟩])
  (.seq (.region [⟨(some i26), none, .move (.t i0)⟩, ⟨(some i27), none, .move (.t i4)⟩, ⟨(some i28), none, .callv (.t i27) [(.c (.int .i64 (.ofNat 1)))]⟩, ⟨(some i29), none, .nilCheck (.t i26)⟩, ⟨(some i30), none, .fieldAddr 9 (.t i29)⟩, ⟨none, none, .store none (.t i30) (.t i28)⟩])
  (.seq (.region [⟨(some i31), none, .move (.t i0)⟩, ⟨(some i32), none, .nilCheck (.t i31)⟩, ⟨(some i33), none, .fieldAddr 10 (.t i32)⟩, ⟨(some i34), none, .load none (.t i33)⟩, ⟨(some i35), none, .bin .sub (.t i34) (.c (.int .i64 (.ofNat 1)))⟩, ⟨(some i36), none, .nilCheck (.t i31)⟩, ⟨(some i37), none, .fieldAddr 10 (.t i36)⟩, ⟨none, none, .store none (.t i37) (.t i35)⟩])
  (.seq (.region [⟨(some i38), none, .move (.t i5)⟩, ⟨(some i2), none, .move (.t i38)⟩, ⟨(some i3), none, .move (.c (.int .i64 (.ofNat 0)))⟩])
  .ret)))))))⟩
theorem tr254 : trFunc (tyIn Tryz.prog tyn) ibn Tryz.f254 = some af254 := by kernel_rfl
theorem nm254 : (Tryz.f254.name == "runtime.NumGoroutine") = false := by kernel_rfl
theorem good254 : GoodAt Tryz.prog tyn ibn i254 af254 := goodAt Tryz.func254 tr254 nm254 rfl
def af255 : AFunc := ⟨[.tmp i2], (.seq (.region [⟨(some i2), none, .move (.c (.int .i64 (.ofNat 0)))⟩])
  (.seq (.region [⟨(some i3), none, .move (.t i0)⟩, ⟨(some i4), none, .call i249 [(.t i3)]⟩, ⟨(some i5), none, .call i271 [(.t i4)]⟩, ⟨(some i2), none, .move (.t i5)⟩])
  .ret))⟩
theorem tr255 : trFunc (tyIn Tryz.prog tyn) ibn Tryz.f255 = some af255 := by kernel_rfl
theorem nm255 : (Tryz.f255.name == "runtime.NumGoroutine") = false := by kernel_rfl
theorem good255 : GoodAt Tryz.prog tyn ibn i255 af255 := goodAt Tryz.func255 tr255 nm255 rfl
def af256 : AFunc := ⟨[.tmp i3], (.seq (.region [⟨(some i3), none, .move (.c (.int .i64 (.ofNat 0)))⟩])
  (.seq (.seq (.drawn [⟨0, .v, ⟨(some i4), none, .move (.t i0)⟩⟩, ⟨1, .v, ⟨(some i5), none, .nilCheck (.t i4)⟩⟩, ⟨2, .v, ⟨(some i6), none, .fieldAddr 12 (.t i5)⟩⟩, ⟨3, (.r 0), ⟨(some i7), none, .load none (.t i6)⟩⟩, ⟨4, (.r 0), ⟨(some i8), none, .load none (.t i1)⟩⟩, ⟨5, .e, ⟨(some i9), none, .call i257 [(.t i7), (.t i8)]⟩⟩])
  (.cond (.t i9) (.seq (.region [⟨(some i3), none, .move (.c (.int .i64 (.ofNat 9)))⟩])
  .ret)
  .skip))
  (.seq (.drawn [⟨1, .v, ⟨(some i11), none, .move (.t i0)⟩⟩, ⟨2, .v, ⟨(some i12), none, .nilCheck (.t i11)⟩⟩, ⟨3, .v, ⟨(some i13), none, .fieldAddr 12 (.t i12)⟩⟩, ⟨4, (.r 0), ⟨(some i14), none, .load none (.t i13)⟩⟩, ⟨5, (.r 0), ⟨(some i15), none, .load none (.t i1)⟩⟩, ⟨6, .a, ⟨(some i16), none, .buildSlice [(.int .i64 (.ofNat 0))] 1 [(0, 1, (.t i15))]⟩⟩, ⟨7, .e, ⟨(some i17), none, .append 1 (.t i14) (.t i16)⟩⟩, ⟨0, .v, ⟨(some i10), none, .move (.t i0)⟩⟩, ⟨8, .v, ⟨(some i18), none, .nilCheck (.t i10)⟩⟩, ⟨9, .v, ⟨(some i19), none, .fieldAddr 12 (.t i18)⟩⟩, ⟨10, .e, ⟨none, none, .store none (.t i19) (.t i17)⟩⟩])
  (.seq (.region [⟨(some i3), none, .move (.c (.int .i64 (.ofNat 0)))⟩])
  .ret))))⟩
theorem tr256 : trFunc (tyIn Tryz.prog tyn) ibn Tryz.f256 = some af256 := by kernel_rfl
theorem nm256 : (Tryz.f256.name == "runtime.NumGoroutine") = false := by kernel_rfl
theorem good256 : GoodAt Tryz.prog tyn ibn i256 af256 := goodAt Tryz.func256 tr256 nm256 rfl
def af257 : AFunc := ⟨[.tmp i4], (.seq (.region [⟨(some i4), none, .move (.c (.bool false))⟩])
  (.seq (.region [⟨(some i5), none, .move (.t i0)⟩, ⟨(some i6), none, .move (.t i1)⟩, ⟨(some i7), none, .call i243 [(.t i5), (.t i6)]⟩, ⟨(some i8), none, .bin .geq (.t i7) (.c (.int .i64 (.ofNat 0)))⟩, ⟨(some i4), none, .move (.t i8)⟩])
  .ret))⟩
theorem tr257 : trFunc (tyIn Tryz.prog tyn) ibn Tryz.f257 = some af257 := by kernel_rfl
theorem nm257 : (Tryz.f257.name == "runtime.NumGoroutine") = false := by kernel_rfl
theorem good257 : GoodAt Tryz.prog tyn ibn i257 af257 := goodAt Tryz.func257 tr257 nm257 rfl
def af258 : AFunc := ⟨[.tmp i4], (.seq (.region [⟨(some i4), none, .move (.c (.int .i64 (.ofNat 0)))⟩])
  (.seq (.block 0 (.seq (.region [⟨(some i8), none, .move (.t i0)⟩, ⟨(some i9), none, .bin (.eq .ptr) (.t i8) (.c .nilptr)⟩, ⟨(some i7), none, .move (.t i9)⟩])
  (.cond (.t i7) (.seq (.region [⟨(some i4), none, .move (.c (.int .i64 (.ofNat 1)))⟩])
  .ret)
  (.seq (.region [⟨(some i11), none, .move (.t i1)⟩, ⟨(some i12), none, .bin .lss (.t i11) (.c (.int .i64 (.ofNat 0)))⟩, ⟨(some i13), none, .move (.t i12)⟩, ⟨(some i14), (some (i13, false)), .move (.t i1)⟩, ⟨(some i15), (some (i13, false)), .bin .geq (.t i14) (.c (.int .i64 (.ofNat 1024)))⟩, ⟨(some i16), none, .pick (.t i13) (.c (.bool true)) (.t i15)⟩, ⟨(some i10), none, .move (.t i16)⟩])
  (.cond (.t i10) (.seq (.region [⟨(some i4), none, .move (.c (.int .i64 (.ofNat 2)))⟩])
  .ret)
  .skip)))))
  (.seq (.seq (.region [⟨(some i18), none, .move (.t i0)⟩, ⟨(some i19), none, .nilCheck (.t i18)⟩, ⟨(some i20), none, .fieldAddr 0 (.t i19)⟩, ⟨(some i21), none, .load none (.t i20)⟩, ⟨(some i22), none, .move (.t i1)⟩, ⟨(some i23), none, .lookup .int (.agg [(.int .i64 (.ofNat 0)), (.int .i64 (.ofNat 0))]) true (.t i21) (.t i22)⟩, ⟨(some i17), none, .move (.t i23)⟩, ⟨(some i24), none, .extract 0 (.t i17)⟩, ⟨(some i25), none, .extract 1 (.t i17)⟩, ⟨(some i5), none, .alloc [(.int .i64 (.ofNat 0)), (.int .i64 (.ofNat 0))]⟩, ⟨none, none, .store (some 2) (.t i5) (.t i24)⟩, ⟨(some i6), none, .move (.t i25)⟩])
  (.seq (.region [⟨(some i26), none, .move (.t i6)⟩])
  (.cond (.t i26) (.seq (.region [⟨(some i4), none, .move (.c (.int .i64 (.ofNat 9)))⟩])
  .ret)
  .skip)))
  (.seq (.drawn [⟨0, .v, ⟨(some i27), none, .move (.t i0)⟩⟩, ⟨1, .v, ⟨(some i28), none, .nilCheck (.t i27)⟩⟩, ⟨2, .v, ⟨(some i29), none, .fieldAddr 0 (.t i28)⟩⟩, ⟨3, (.r 0), ⟨(some i30), none, .load none (.t i29)⟩⟩, ⟨4, .v, ⟨(some i31), none, .move (.t i1)⟩⟩, ⟨5, .v, ⟨(some i32), none, .move (.t i0)⟩⟩, ⟨6, .v, ⟨(some i33), none, .nilCheck (.t i32)⟩⟩, ⟨7, .v, ⟨(some i34), none, .fieldAddr 2 (.t i33)⟩⟩, ⟨8, (.r 0), ⟨(some i35), none, .load none (.t i34)⟩⟩, ⟨9, .v, ⟨(some i36), none, .build [(.int .i64 (.ofNat 0)), (.int .i64 (.ofNat 0))] [(0, 1, (.t i35)), (1, 1, (.c (.int .i64 (.negSucc 0))))]⟩⟩, ⟨10, .e, ⟨none, none, .insert .int (.t i30) (.t i31) (.t i36)⟩⟩])
  (.seq (.seq (.region [⟨(some i37), none, .move (.t i0)⟩, ⟨(some i38), none, .nilCheck (.t i37)⟩, ⟨(some i39), none, .fieldAddr 2 (.t i38)⟩, ⟨(some i40), none, .load none (.t i39)⟩, ⟨(some i41), none, .bin .geq (.t i40) (.c (.int .i64 (.ofNat 0)))⟩])
  (.cond (.t i41) (.drawn [⟨0, .v, ⟨(some i42), none, .move (.t i0)⟩⟩, ⟨1, .v, ⟨(some i43), none, .nilCheck (.t i42)⟩⟩, ⟨2, .v, ⟨(some i44), none, .fieldAddr 0 (.t i43)⟩⟩, ⟨3, (.r 0), ⟨(some i45), none, .load none (.t i44)⟩⟩, ⟨4, .v, ⟨(some i46), none, .move (.t i0)⟩⟩, ⟨5, .v, ⟨(some i47), none, .nilCheck (.t i46)⟩⟩, ⟨6, .v, ⟨(some i48), none, .fieldAddr 2 (.t i47)⟩⟩, ⟨7, (.r 0), ⟨(some i49), none, .load none (.t i48)⟩⟩, ⟨8, .v, ⟨(some i50), none, .move (.t i0)⟩⟩, ⟨9, .v, ⟨(some i51), none, .nilCheck (.t i50)⟩⟩, ⟨10, .v, ⟨(some i52), none, .fieldAddr 0 (.t i51)⟩⟩, ⟨11, (.r 0), ⟨(some i53), none, .load none (.t i52)⟩⟩, ⟨12, .v, ⟨(some i54), none, .move (.t i0)⟩⟩, ⟨13, .v, ⟨(some i55), none, .nilCheck (.t i54)⟩⟩, ⟨14, .v, ⟨(some i56), none, .fieldAddr 2 (.t i55)⟩⟩, ⟨15, (.r 0), ⟨(some i57), none, .load none (.t i56)⟩⟩, ⟨16, (.r 0), ⟨(some i58), none, .lookup .int (.agg [(.int .i64 (.ofNat 0)), (.int .i64 (.ofNat 0))]) false (.t i53) (.t i57)⟩⟩, ⟨17, .v, ⟨(some i59), none, .field 0 none (.t i58)⟩⟩, ⟨18, .v, ⟨(some i60), none, .move (.t i1)⟩⟩, ⟨19, .v, ⟨(some i61), none, .build [(.int .i64 (.ofNat 0)), (.int .i64 (.ofNat 0))] [(0, 1, (.t i59)), (1, 1, (.t i60))]⟩⟩, ⟨20, .e, ⟨none, none, .insert .int (.t i45) (.t i49) (.t i61)⟩⟩])
  (.region [⟨(some i62), none, .move (.t i0)⟩, ⟨(some i63), none, .move (.t i1)⟩, ⟨(some i64), none, .nilCheck (.t i62)⟩, ⟨(some i65), none, .fieldAddr 1 (.t i64)⟩, ⟨none, none, .store none (.t i65) (.t i63)⟩])))
  (.seq (.region [⟨(some i66), none, .move (.t i0)⟩, ⟨(some i67), none, .move (.t i1)⟩, ⟨(some i68), none, .nilCheck (.t i66)⟩, ⟨(some i69), none, .fieldAddr 2 (.t i68)⟩, ⟨none, none, .store none (.t i69) (.t i67)⟩])
  (.seq (.region [⟨(some i4), none, .move (.c (.int .i64 (.ofNat 0)))⟩])
  .ret)))))))⟩
theorem tr258 : trFunc (tyIn Tryz.prog tyn) ibn Tryz.f258 = some af258 := by kernel_rfl
theorem nm258 : (Tryz.f258.name == "runtime.NumGoroutine") = false := by kernel_rfl
theorem good258 : GoodAt Tryz.prog tyn ibn i258 af258 := goodAt Tryz.func258 tr258 nm258 rfl
def af259 : AFunc := ⟨[], (.seq (.drawn [⟨0, .v, ⟨(some i4), none, .move (.t i0)⟩⟩, ⟨1, .v, ⟨(some i5), none, .move (.t i1)⟩⟩, ⟨2, .e, ⟨(some i6), none, .call i162 [(.t i4), (.t i5)]⟩⟩, ⟨3, .v, ⟨(some i7), none, .move (.t i1)⟩⟩, ⟨4, .v, ⟨(some i8), none, .nilCheck (.t i7)⟩⟩, ⟨5, .v, ⟨(some i9), none, .fieldAddr 18 (.t i8)⟩⟩, ⟨6, (.r 1), ⟨(some i10), none, .load none (.t i9)⟩⟩, ⟨7, .e, ⟨(some i11), none, .call i153 [(.t i6), (.c (.bool false)), (.t i10)]⟩⟩])
  (.region [⟨(some i12), none, .move (.t i1)⟩, ⟨(some i13), none, .nilCheck (.t i12)⟩, ⟨(some i14), none, .fieldAddr 1 (.t i13)⟩, ⟨none, none, .store none (.t i14) (.c (.fn i272 [] []))⟩]))⟩
theorem tr259 : trFunc (tyIn Tryz.prog tyn) ibn Tryz.f259 = some af259 := by kernel_rfl
theorem nm259 : (Tryz.f259.name == "runtime.NumGoroutine") = false := by kernel_rfl
theorem good259 : GoodAt Tryz.prog tyn ibn i259 af259 := goodAt Tryz.func259 tr259 nm259 rfl
def af260 : AFunc := ⟨[.cell i6 none], (.seq (.region [⟨(some i5), none, .box (.t i2)⟩, ⟨(some i6), none, .alloc [.nilptr]⟩])
  (.seq (.region [⟨(some i7), none, .move (.t i0)⟩, ⟨(some i8), none, .move (.t i1)⟩, ⟨(some i9), none, .mkfn i273 [] [(.t i5), (.t i6)]⟩, ⟨(some i10), none, .call i134 [(.t i7), (.t i8), (.t i9)]⟩])
  (.seq (.region [⟨(some i11), none, .load none (.t i6)⟩, ⟨none, none, .store none (.t i6) (.t i11)⟩])
  .ret)))⟩
theorem tr260 : trFunc (tyIn Tryz.prog tyn) ibn Tryz.f260 = some af260 := by kernel_rfl
theorem nm260 : (Tryz.f260.name == "runtime.NumGoroutine") = false := by kernel_rfl
theorem good260 : GoodAt Tryz.prog tyn ibn i260 af260 := goodAt Tryz.func260 tr260 nm260 rfl
def af261 : AFunc := ⟨[.cell i4 none, .cell i5 none], (.seq (.region [⟨(some i4), none, .alloc [(.int .i64 (.ofNat 0))]⟩, ⟨(some i5), none, .alloc [(.bool false)]⟩])
  (.seq (.seq (.region [⟨(some i7), none, .move (.t i0)⟩, ⟨(some i8), none, .move (.t i1)⟩, ⟨(some i9), none, .call i274 [(.t i7), (.t i8)]⟩])
  (.block 0 (.rangeFunc (.t i9) [i10] (.region [⟨(some i6), none, .move (.t i10)⟩]) (.block 1 (.seq (.region [⟨(some i11), none, .move (.t i6)⟩, ⟨none, none, .store none (.t i4) (.t i11)⟩, ⟨none, none, .store none (.t i5) (.c (.bool true))⟩])
  .ret)))))
  (.seq (.region [⟨none, none, .store none (.t i4) (.c (.int .i64 (.ofNat 0)))⟩, ⟨none, none, .store none (.t i5) (.c (.bool false))⟩])
  .ret)))⟩
theorem tr261 : trFunc (tyIn Tryz.prog tyn) ibn Tryz.f261 = some af261 := by kernel_rfl
theorem nm261 : (Tryz.f261.name == "runtime.NumGoroutine") = false := by kernel_rfl
theorem good261 : GoodAt Tryz.prog tyn ibn i261 af261 := goodAt Tryz.func261 tr261 nm261 rfl
def af262 : AFunc := ⟨[.tmp i2], (.seq (.region [⟨(some i2), none, .move (.c .nilslice)⟩])
  (.seq (.region [⟨(some i3), none, .move (.t i0)⟩, ⟨(some i4), none, .call i275 [(.c .nilslice), (.t i3)]⟩, ⟨(some i2), none, .move (.t i4)⟩])
  .ret))⟩
theorem tr262 : trFunc (tyIn Tryz.prog tyn) ibn Tryz.f262 = some af262 := by kernel_rfl
theorem nm262 : (Tryz.f262.name == "runtime.NumGoroutine") = false := by kernel_rfl
theorem good262 : GoodAt Tryz.prog tyn ibn i262 af262 := goodAt Tryz.func262 tr262 nm262 rfl
def af263 : AFunc := ⟨[], (.seq (.region [⟨(some i3), none, .move (.t i0)⟩, ⟨(some i4), none, .lenSl (.t i3)⟩, ⟨(some i2), none, .move (.t i4)⟩])
  (.region [⟨(some i5), none, .move (.t i0)⟩, ⟨(some i6), none, .move (.t i2)⟩, ⟨(some i7), none, .move (.t i2)⟩, ⟨(some i8), none, .conv .u64 (.t i7)⟩, ⟨(some i9), none, .call i277 [(.t i8)]⟩, ⟨(some i10), none, .call i276 [(.t i5), (.c (.int .i64 (.ofNat 0))), (.t i6), (.t i9)]⟩]))⟩
theorem tr263 : trFunc (tyIn Tryz.prog tyn) ibn Tryz.f263 = some af263 := by kernel_rfl
theorem nm263 : (Tryz.f263.name == "runtime.NumGoroutine") = false := by kernel_rfl
theorem good263 : GoodAt Tryz.prog tyn ibn i263 af263 := goodAt Tryz.func263 tr263 nm263 rfl
def af264 : AFunc := ⟨[], (.seq (.region [⟨(some i4), none, .load none (.t i1)⟩, ⟨(some i5), none, .bad⟩])
  (.block 0 (.loop (.seq (.region [⟨(some i6), none, .bad⟩, ⟨(some i7), none, .extract 0 (.t i6)⟩])
  (.seq (.cond (.t i7) .skip
  (.exit 0))
  (.block 1 (.seq (.region [⟨(some i8), none, .bad⟩, ⟨(some i9), none, .extract 0 (.t i8)⟩, ⟨(some i3), none, .move (.t i9)⟩])
  (.seq (.region [⟨(some i10), none, .move (.t i0)⟩, ⟨(some i11), none, .move (.t i3)⟩, ⟨(some i12), none, .callv (.t i10) [(.t i11)]⟩, ⟨(some i13), none, .not (.t i12)⟩])
  (.cond (.t i13) .ret
  .skip)))))))))⟩
theorem tr264 : trFunc (tyIn Tryz.prog tyn) ibn Tryz.f264 = some af264 := by kernel_rfl
theorem nm264 : (Tryz.f264.name == "runtime.NumGoroutine") = false := by kernel_rfl
theorem good264 : GoodAt Tryz.prog tyn ibn i264 af264 := goodAt Tryz.func264 tr264 nm264 rfl
def af265 : AFunc := ⟨[], (.seq (.region [⟨(some i5), none, .move (.c (.fn i266 [] []))⟩])
  (.seq (.region [⟨(some i6), none, .load none (.t i1)⟩, ⟨(some i7), none, .bin .rem (.t i6) (.c (.int .u64 (.ofNat 2)))⟩, ⟨(some i8), none, .bin (.eq .int) (.t i7) (.c (.int .u64 (.ofNat 1)))⟩])
  (.cond (.t i8) (.drawn [⟨0, .v, ⟨(some i9), none, .move (.t i5)⟩⟩, ⟨1, (.r 0), ⟨(some i10), none, .load none (.t i2)⟩⟩, ⟨2, .v, ⟨(some i11), none, .nilCheck (.t i10)⟩⟩, ⟨3, .v, ⟨(some i12), none, .fieldAddr 0 (.t i11)⟩⟩, ⟨4, .v, ⟨(some i13), none, .fieldAddr 0 (.t i12)⟩⟩, ⟨5, (.r 0), ⟨(some i14), none, .load none (.t i13)⟩⟩, ⟨6, .v, ⟨(some i15), none, .move (.t i0)⟩⟩, ⟨7, (.r 0), ⟨(some i16), none, .load none (.t i1)⟩⟩, ⟨8, (.r 0), ⟨(some i17), none, .load none (.t i1)⟩⟩, ⟨9, .v, ⟨(some i18), none, .bin .add (.t i17) (.c (.int .u64 (.ofNat 1)))⟩⟩, ⟨10, .e, ⟨(some i19), none, .callv (.t i9) [(.t i14), (.t i15), (.t i16), (.t i18)]⟩⟩, ⟨11, .e, ⟨none, none, .store none (.t i3) (.t i19)⟩⟩])
  .skip)))⟩
theorem tr265 : trFunc (tyIn Tryz.prog tyn) ibn Tryz.f265 = some af265 := by kernel_rfl
theorem nm265 : (Tryz.f265.name == "runtime.NumGoroutine") = false := by kernel_rfl
theorem good265 : GoodAt Tryz.prog tyn ibn i265 af265 := goodAt Tryz.func265 tr265 nm265 rfl
def af266 : AFunc := ⟨[.cell i8 none], (.seq (.region [⟨(some i6), none, .box (.t i2)⟩, ⟨(some i7), none, .box (.t i3)⟩, ⟨(some i8), none, .alloc [(.bool false)]⟩])
  (.seq (.region [⟨(some i9), none, .move (.t i0)⟩, ⟨(some i10), none, .move (.t i1)⟩, ⟨(some i11), none, .mkfn i278 [] [(.t i6), (.t i8), (.t i7)]⟩, ⟨(some i12), none, .call i139 [(.t i9), (.t i10), (.t i11)]⟩])
  (.seq (.region [⟨(some i13), none, .load none (.t i8)⟩, ⟨none, none, .store none (.t i8) (.t i13)⟩])
  .ret)))⟩
theorem tr266 : trFunc (tyIn Tryz.prog tyn) ibn Tryz.f266 = some af266 := by kernel_rfl
theorem nm266 : (Tryz.f266.name == "runtime.NumGoroutine") = false := by kernel_rfl
theorem good266 : GoodAt Tryz.prog tyn ibn i266 af266 := goodAt Tryz.func266 tr266 nm266 rfl
def af267 : AFunc := ⟨[.tmp i2], (.seq (.region [⟨(some i2), none, .move (.c (.int .i64 (.ofNat 0)))⟩])
  (.seq (.seq (.region [⟨(some i3), none, .move (.t i0)⟩, ⟨(some i4), none, .bin (.eq .ptr) (.t i3) (.c .nilptr)⟩])
  (.cond (.t i4) (.seq (.region [⟨(some i2), none, .move (.c (.int .i64 (.ofNat 0)))⟩])
  .ret)
  .skip))
  (.seq (.region [⟨(some i5), none, .move (.t i0)⟩, ⟨(some i6), none, .nilCheck (.t i5)⟩, ⟨(some i7), none, .fieldAddr 8 (.t i6)⟩, ⟨(some i8), none, .load none (.t i7)⟩, ⟨(some i2), none, .move (.t i8)⟩])
  .ret)))⟩
theorem tr267 : trFunc (tyIn Tryz.prog tyn) ibn Tryz.f267 = some af267 := by kernel_rfl
theorem nm267 : (Tryz.f267.name == "runtime.NumGoroutine") = false := by kernel_rfl
theorem good267 : GoodAt Tryz.prog tyn ibn i267 af267 := goodAt Tryz.func267 tr267 nm267 rfl
def af268 : AFunc := ⟨[], (.seq (.region [⟨(some i5), none, .box (.t i2)⟩])
  (.seq (.drawn [⟨0, .v, ⟨(some i8), none, .move (.t i0)⟩⟩, ⟨1, .v, ⟨(some i9), none, .nilCheck (.t i8)⟩⟩, ⟨2, .v, ⟨(some i10), none, .fieldAddr 13 (.t i9)⟩⟩, ⟨3, (.r 0), ⟨(some i11), none, .load none (.t i10)⟩⟩, ⟨4, .v, ⟨(some i12), none, .move (.t i1)⟩⟩, ⟨5, .v, ⟨(some i13), none, .nilCheck (.t i12)⟩⟩, ⟨6, .v, ⟨(some i14), none, .fieldAddr 19 (.t i13)⟩⟩, ⟨7, .v, ⟨(some i15), none, .fieldAddr 0 (.t i14)⟩⟩, ⟨8, (.r 0), ⟨(some i16), none, .load none (.t i15)⟩⟩, ⟨9, (.r 0), ⟨(some i17), none, .load (some 4) (.t i5)⟩⟩, ⟨10, .e, ⟨(some i18), none, .call i279 [(.t i11), (.t i16), (.t i17)]⟩⟩])
  (.seq (.drawn [⟨0, .v, ⟨(some i20), none, .move (.t i0)⟩⟩, ⟨1, .v, ⟨(some i21), none, .nilCheck (.t i20)⟩⟩, ⟨2, .v, ⟨(some i22), none, .fieldAddr 12 (.t i21)⟩⟩, ⟨3, (.r 0), ⟨(some i23), none, .load none (.t i22)⟩⟩, ⟨4, .v, ⟨(some i24), none, .move (.t i1)⟩⟩, ⟨5, .v, ⟨(some i25), none, .nilCheck (.t i24)⟩⟩, ⟨6, .v, ⟨(some i26), none, .fieldAddr 19 (.t i25)⟩⟩, ⟨7, .v, ⟨(some i27), none, .fieldAddr 0 (.t i26)⟩⟩, ⟨8, (.r 0), ⟨(some i28), none, .load none (.t i27)⟩⟩, ⟨9, .e, ⟨(some i29), none, .call i113 [(.t i23), (.t i28)]⟩⟩, ⟨10, .v, ⟨(some i19), none, .move (.t i29)⟩⟩, ⟨11, .v, ⟨(some i30), none, .extract 0 (.t i19)⟩⟩, ⟨13, .a, ⟨(some i6), none, .alloc [(.int .u8 (.ofNat 0)), (.int .i64 (.ofNat 0)), (.int .i64 (.ofNat 0)), (.int .i64 (.ofNat 0)), (.int .i64 (.ofNat 0)), (.int .i64 (.ofNat 0)), (.int .i64 (.ofNat 0)), (.int .i64 (.ofNat 0)), (.int .i64 (.ofNat 0)), (.int .i64 (.ofNat 0)), (.int .i64 (.ofNat 0))]⟩⟩, ⟨14, .e, ⟨none, none, .store (some 11) (.t i6) (.t i30)⟩⟩, ⟨12, .v, ⟨(some i31), none, .extract 1 (.t i19)⟩⟩, ⟨15, .v, ⟨(some i7), none, .move (.t i31)⟩⟩])
  (.seq (.drawn [⟨0, .v, ⟨(some i32), none, .move (.t i0)⟩⟩, ⟨1, .v, ⟨(some i33), none, .nilCheck (.t i32)⟩⟩, ⟨2, .v, ⟨(some i34), none, .fieldAddr 12 (.t i33)⟩⟩, ⟨3, (.r 0), ⟨(some i35), none, .load none (.t i34)⟩⟩, ⟨4, .v, ⟨(some i36), none, .move (.t i1)⟩⟩, ⟨5, .v, ⟨(some i37), none, .nilCheck (.t i36)⟩⟩, ⟨6, .v, ⟨(some i38), none, .fieldAddr 19 (.t i37)⟩⟩, ⟨7, .v, ⟨(some i39), none, .fieldAddr 0 (.t i38)⟩⟩, ⟨8, (.r 0), ⟨(some i40), none, .load none (.t i39)⟩⟩, ⟨9, .v, ⟨(some i41), none, .fieldAddr 1 (.t i6)⟩⟩, ⟨10, (.r 0), ⟨(some i42), none, .load (some 10) (.t i41)⟩⟩, ⟨11, .v, ⟨(some i43), none, .build [(.int .u8 (.ofNat 0)), (.int .i64 (.ofNat 0)), (.int .i64 (.ofNat 0)), (.int .i64 (.ofNat 0)), (.int .i64 (.ofNat 0)), (.int .i64 (.ofNat 0)), (.int .i64 (.ofNat 0)), (.int .i64 (.ofNat 0)), (.int .i64 (.ofNat 0)), (.int .i64 (.ofNat 0)), (.int .i64 (.ofNat 0))] [(0, 1, (.c (.int .u8 (.ofNat 1)))), (1, 10, (.t i42))]⟩⟩, ⟨12, .e, ⟨(some i44), none, .call i101 [(.t i35), (.t i40), (.t i43)]⟩⟩])
  (.drawn [⟨1, .v, ⟨(some i46), none, .move (.t i1)⟩⟩, ⟨2, .v, ⟨(some i47), none, .nilCheck (.t i46)⟩⟩, ⟨3, .v, ⟨(some i48), none, .fieldAddr 26 (.t i47)⟩⟩, ⟨4, (.r 0), ⟨(some i49), none, .load none (.t i48)⟩⟩, ⟨5, .v, ⟨(some i50), none, .move (.t i1)⟩⟩, ⟨6, .v, ⟨(some i51), none, .nilCheck (.t i50)⟩⟩, ⟨7, .v, ⟨(some i52), none, .fieldAddr 19 (.t i51)⟩⟩, ⟨8, .v, ⟨(some i53), none, .fieldAddr 0 (.t i52)⟩⟩, ⟨9, (.r 0), ⟨(some i54), none, .load none (.t i53)⟩⟩, ⟨10, .a, ⟨(some i55), none, .buildSlice [(.int .i64 (.ofNat 0))] 1 [(0, 1, (.t i54))]⟩⟩, ⟨11, .e, ⟨(some i56), none, .append 1 (.t i49) (.t i55)⟩⟩, ⟨0, .v, ⟨(some i45), none, .move (.t i1)⟩⟩, ⟨12, .v, ⟨(some i57), none, .nilCheck (.t i45)⟩⟩, ⟨13, .v, ⟨(some i58), none, .fieldAddr 26 (.t i57)⟩⟩, ⟨14, .e, ⟨none, none, .store none (.t i58) (.t i56)⟩⟩])))))⟩
theorem tr268 : trFunc (tyIn Tryz.prog tyn) ibn Tryz.f268 = some af268 := by kernel_rfl
theorem nm268 : (Tryz.f268.name == "runtime.NumGoroutine") = false := by kernel_rfl
theorem good268 : GoodAt Tryz.prog tyn ibn i268 af268 := goodAt Tryz.func268 tr268 nm268 rfl
end Go.Am

