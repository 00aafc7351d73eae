/- An abstract machine for Go code and its soundness over the model; no condition of its own. Used by the proof that the law TopScheduled returns true at every input. -/
import Derived.Test.YtofefignkpmlbaaGreatFnPos
import Derived.Test.YtofefignkpmlbaaGreatFn1
namespace Go.Am
open Go.Proofs
def af133 : AFunc := ⟨[], (.seq (.region [⟨(some i4), none, .move (.t i0)⟩, ⟨(some i5), none, .nilCheck (.t i4)⟩, ⟨(some i6), none, .fieldAddr 0 (.t i5)⟩, ⟨(some i7), none, .load none (.t i6)⟩, ⟨(some i8), none, .call i9 [(.t i7)]⟩])
  (.seq (.drawn [⟨8, .v, ⟨(some i17), none, .move (.t i0)⟩⟩, ⟨9, .v, ⟨(some i18), none, .move (.t i1)⟩⟩, ⟨10, .e, ⟨(some i19), none, .call i95 [(.t i17), (.t i18)]⟩⟩, ⟨0, .v, ⟨(some i9), none, .move (.t i0)⟩⟩, ⟨1, .v, ⟨(some i10), none, .nilCheck (.t i9)⟩⟩, ⟨2, .v, ⟨(some i11), none, .fieldAddr 12 (.t i10)⟩⟩, ⟨3, (.r 1), ⟨(some i12), none, .load none (.t i11)⟩⟩, ⟨4, .v, ⟨(some i13), none, .move (.t i1)⟩⟩, ⟨5, .v, ⟨(some i14), none, .nilCheck (.t i13)⟩⟩, ⟨6, .v, ⟨(some i15), none, .fieldAddr 9 (.t i14)⟩⟩, ⟨7, (.r 1), ⟨(some i16), none, .load none (.t i15)⟩⟩, ⟨11, .v, ⟨(some i20), none, .build [(.int .u8 (.ofNat 0)), (.int .i64 (.ofNat 0)), (.int .i64 (.ofNat 0)), (.int .i64 (.ofNat 0)), (.int .i64 (.ofNat 0)), (.int .i64 (.ofNat 0)), (.int .i64 (.ofNat 0)), (.int .i64 (.ofNat 0)), (.int .i64 (.ofNat 0)), (.int .i64 (.ofNat 0)), (.int .i64 (.ofNat 0))] [(0, 1, (.c (.int .u8 (.ofNat 3)))), (1, 10, (.t i19))]⟩⟩, ⟨12, .e, ⟨(some i21), none, .call i101 [(.t i12), (.t i16), (.t i20)]⟩⟩])
  (.seq (.region [⟨(some i22), none, .move (.t i0)⟩, ⟨(some i23), none, .move (.t i1)⟩, ⟨(some i24), none, .nilCheck (.t i23)⟩, ⟨(some i25), none, .fieldAddr 9 (.t i24)⟩, ⟨(some i26), none, .load none (.t i25)⟩, ⟨(some i27), none, .build [(.int .i64 (.ofNat 0)), (.int .u8 (.ofNat 0)), (.int .i64 (.ofNat 0)), (.int .i64 (.ofNat 0)), (.int .i64 (.ofNat 0)), (.int .i64 (.ofNat 0)), (.int .i64 (.ofNat 0)), (.int .i64 (.ofNat 0)), (.int .i64 (.ofNat 0)), (.int .i64 (.ofNat 0)), (.bool false), (.int .i64 (.ofNat 0)), (.int .u64 (.ofNat 0))] [(1, 1, (.c (.int .u8 (.ofNat 10)))), (3, 1, (.t i26))]⟩, ⟨(some i28), none, .call i93 [(.t i22), (.t i27)]⟩])
  (.seq (.region [⟨(some i29), none, .move (.t i0)⟩, ⟨(some i30), none, .move (.t i1)⟩, ⟨(some i31), none, .call i172 [(.t i29), (.t i30)]⟩])
  (.region [⟨(some i32), none, .move (.t i1)⟩, ⟨(some i33), none, .call i79 [(.t i32), (.c (.fn i45 [] []))]⟩])))))⟩
theorem tr133 : trFunc (tyIn Tryz.prog tyn) ibn Tryz.f133 = some af133 := by kernel_rfl
theorem nm133 : (Tryz.f133.name == "runtime.NumGoroutine") = false := by kernel_rfl
theorem good133 : GoodAt Tryz.prog tyn ibn i133 af133 := goodAt Tryz.func133 tr133 nm133 rfl
def af134 : AFunc := ⟨[.tmp i6], (.seq (.region [⟨(some i6), none, .move (.c (.int .i64 (.ofNat 0)))⟩])
  (.seq (.block 0 (.seq (.region [⟨(some i8), none, .move (.t i0)⟩, ⟨(some i9), none, .bin (.eq .ptr) (.t i8) (.c .nilptr)⟩, ⟨(some i7), none, .move (.t i9)⟩])
  (.cond (.t i7) (.seq (.region [⟨(some i6), none, .move (.c (.int .i64 (.ofNat 1)))⟩])
  .ret)
  (.seq (.region [⟨(some i11), none, .move (.t i1)⟩, ⟨(some i12), none, .bin .lss (.t i11) (.c (.int .i64 (.ofNat 0)))⟩, ⟨(some i13), none, .move (.t i12)⟩, ⟨(some i14), (some (i13, false)), .move (.t i1)⟩, ⟨(some i15), (some (i13, false)), .move (.t i0)⟩, ⟨(some i16), (some (i13, false)), .nilCheck (.t i15)⟩, ⟨(some i17), (some (i13, false)), .fieldAddr 3 (.t i16)⟩, ⟨(some i18), (some (i13, false)), .load none (.t i17)⟩, ⟨(some i19), (some (i13, false)), .lenSl (.t i18)⟩, ⟨(some i20), (some (i13, false)), .bin .geq (.t i14) (.t i19)⟩, ⟨(some i21), none, .pick (.t i13) (.c (.bool true)) (.t i20)⟩, ⟨(some i10), none, .move (.t i21)⟩])
  (.cond (.t i10) (.seq (.region [⟨(some i6), none, .move (.c (.int .i64 (.ofNat 3)))⟩])
  .ret)
  .skip)))))
  (.seq (.region [⟨(some i22), none, .move (.t i2)⟩, ⟨(some i23), none, .move (.t i0)⟩, ⟨(some i24), none, .nilCheck (.t i23)⟩, ⟨(some i25), none, .fieldAddr 3 (.t i24)⟩, ⟨(some i26), none, .load none (.t i25)⟩, ⟨(some i27), none, .move (.t i1)⟩, ⟨(some i28), none, .indexSl 1 (.t i26) (.t i27)⟩, ⟨(some i29), none, .load none (.t i28)⟩, ⟨(some i30), none, .callv (.t i22) [(.t i29)]⟩, ⟨(some i6), none, .move (.t i30)⟩])
  .ret)))⟩
theorem tr134 : trFunc (tyIn Tryz.prog tyn) ibn Tryz.f134 = some af134 := by kernel_rfl
theorem nm134 : (Tryz.f134.name == "runtime.NumGoroutine") = false := by kernel_rfl
theorem good134 : GoodAt Tryz.prog tyn ibn i134 af134 := goodAt Tryz.func134 tr134 nm134 rfl
def af135 : AFunc := ⟨[.tmp i4], (.seq (.region [⟨(some i4), none, .move (.c (.int .i64 (.ofNat 0)))⟩])
  (.seq (.seq (.drawn [⟨0, .v, ⟨(some i5), none, .fieldAddr 0 (.t i1)⟩⟩, ⟨1, (.r 0), ⟨(some i6), none, .load none (.t i5)⟩⟩, ⟨2, .v, ⟨(some i7), none, .bin .lss (.t i6) (.c (.int .u8 (.ofNat 1)))⟩⟩, ⟨3, .v, ⟨(some i8), none, .move (.t i7)⟩⟩, ⟨4, .v, ⟨(some i9), (some (i8, false)), .fieldAddr 0 (.t i1)⟩⟩, ⟨5, (.r 0), ⟨(some i10), (some (i8, false)), .load none (.t i9)⟩⟩, ⟨6, .v, ⟨(some i11), (some (i8, false)), .bin .gtr (.t i10) (.c (.int .u8 (.ofNat 3)))⟩⟩, ⟨7, .v, ⟨(some i12), none, .pick (.t i8) (.c (.bool true)) (.t i11)⟩⟩, ⟨8, .v, ⟨(some i13), none, .move (.t i12)⟩⟩, ⟨9, (.r 0), ⟨(some i14), (some (i13, false)), .load none (.t i2)⟩⟩, ⟨10, .v, ⟨(some i15), (some (i13, false)), .nilCheck (.t i14)⟩⟩, ⟨11, .v, ⟨(some i16), (some (i13, false)), .fieldAddr 0 (.t i15)⟩⟩, ⟨12, (.r 0), ⟨(some i17), (some (i13, false)), .load (some 3) (.t i16)⟩⟩, ⟨13, .v, ⟨(some i18), (some (i13, false)), .fieldAddr 1 (.t i1)⟩⟩, ⟨14, (.r 0), ⟨(some i19), (some (i13, false)), .load (some 10) (.t i18)⟩⟩, ⟨15, .e, ⟨(some i20), (some (i13, false)), .call i62 [(.t i17), (.t i19)]⟩⟩, ⟨16, .v, ⟨(some i21), (some (i13, false)), .bin (.ne .int) (.t i20) (.c (.int .i64 (.ofNat 0)))⟩⟩, ⟨17, .v, ⟨(some i22), none, .pick (.t i13) (.c (.bool true)) (.t i21)⟩⟩])
  (.cond (.t i22) (.seq (.region [⟨(some i4), none, .move (.c (.int .i64 (.ofNat 2)))⟩])
  .ret)
  .skip))
  (.seq (.region [⟨(some i23), none, .move (.t i0)⟩, ⟨(some i24), none, .load (some 11) (.t i1)⟩, ⟨(some i25), none, .nilCheck (.t i23)⟩, ⟨(some i26), none, .fieldAddr 0 (.t i25)⟩, ⟨none, none, .store (some 11) (.t i26) (.t i24)⟩])
  (.seq (.region [⟨(some i4), none, .move (.c (.int .i64 (.ofNat 0)))⟩])
  .ret))))⟩
theorem tr135 : trFunc (tyIn Tryz.prog tyn) ibn Tryz.f135 = some af135 := by kernel_rfl
theorem nm135 : (Tryz.f135.name == "runtime.NumGoroutine") = false := by kernel_rfl
theorem good135 : GoodAt Tryz.prog tyn ibn i135 af135 := goodAt Tryz.func135 tr135 nm135 rfl
def af136 : AFunc := ⟨[.tmp i2], (.seq (.region [⟨(some i2), none, .move (.c (.bool false))⟩])
  (.seq (.region [⟨(some i3), none, .move (.t i0)⟩, ⟨(some i4), none, .bin .geq (.t i3) (.c (.int .i64 (.ofNat 0)))⟩, ⟨(some i5), none, .move (.t i4)⟩, ⟨(some i6), (some (i5, true)), .move (.t i0)⟩, ⟨(some i7), (some (i5, true)), .bin .lss (.t i6) (.c (.int .i64 (.ofNat 8)))⟩, ⟨(some i8), none, .pick (.t i5) (.t i7) (.c (.bool false))⟩, ⟨(some i2), none, .move (.t i8)⟩])
  .ret))⟩
theorem tr136 : trFunc (tyIn Tryz.prog tyn) ibn Tryz.f136 = some af136 := by kernel_rfl
theorem nm136 : (Tryz.f136.name == "runtime.NumGoroutine") = false := by kernel_rfl
theorem good136 : GoodAt Tryz.prog tyn ibn i136 af136 := goodAt Tryz.func136 tr136 nm136 rfl
def af137 : AFunc := ⟨[], (.region [⟨(some i3), none, .move (.t i0)⟩, ⟨(some i4), none, .fieldAddr 1 (.t i1)⟩, ⟨(some i5), none, .load none (.t i4)⟩, ⟨(some i6), none, .callv (.t i3) [(.c (.int .u8 (.ofNat 97))), (.t i5)]⟩, ⟨(some i7), none, .move (.t i6)⟩, ⟨(some i8), (some (i7, true)), .move (.t i0)⟩, ⟨(some i9), (some (i7, true)), .fieldAddr 2 (.t i1)⟩, ⟨(some i10), (some (i7, true)), .load none (.t i9)⟩, ⟨(some i11), (some (i7, true)), .callv (.t i8) [(.c (.int .u8 (.ofNat 98))), (.t i10)]⟩, ⟨(some i12), none, .pick (.t i7) (.t i11) (.c (.bool false))⟩, ⟨(some i13), none, .move (.t i12)⟩, ⟨(some i14), (some (i13, true)), .move (.t i0)⟩, ⟨(some i15), (some (i13, true)), .fieldAddr 3 (.t i1)⟩, ⟨(some i16), (some (i13, true)), .load none (.t i15)⟩, ⟨(some i17), (some (i13, true)), .callv (.t i14) [(.c (.int .u8 (.ofNat 99))), (.t i16)]⟩, ⟨(some i18), none, .pick (.t i13) (.t i17) (.c (.bool false))⟩, ⟨(some i19), none, .move (.t i18)⟩, ⟨(some i20), (some (i19, true)), .move (.t i0)⟩, ⟨(some i21), (some (i19, true)), .fieldAddr 4 (.t i1)⟩, ⟨(some i22), (some (i19, true)), .load none (.t i21)⟩, ⟨(some i23), (some (i19, true)), .callv (.t i20) [(.c (.int .u8 (.ofNat 107))), (.t i22)]⟩, ⟨(some i24), none, .pick (.t i19) (.t i23) (.c (.bool false))⟩])⟩
theorem tr137 : trFunc (tyIn Tryz.prog tyn) ibn Tryz.f137 = some af137 := by kernel_rfl
theorem nm137 : (Tryz.f137.name == "runtime.NumGoroutine") = false := by kernel_rfl
theorem good137 : GoodAt Tryz.prog tyn ibn i137 af137 := goodAt Tryz.func137 tr137 nm137 rfl
def af138 : AFunc := ⟨[.tmp i4], (.seq (.region [⟨(some i4), none, .move (.c (.int .i64 (.ofNat 0)))⟩])
  (.seq (.region [⟨(some i5), none, .move (.t i0)⟩, ⟨(some i6), none, .move (.t i1)⟩, ⟨(some i7), none, .indexByte (.t i5) (.t i6)⟩, ⟨(some i4), none, .move (.t i7)⟩])
  .ret))⟩
theorem tr138 : trFunc (tyIn Tryz.prog tyn) ibn Tryz.f138 = some af138 := by kernel_rfl
theorem nm138 : (Tryz.f138.name == "runtime.NumGoroutine") = false := by kernel_rfl
theorem good138 : GoodAt Tryz.prog tyn ibn i138 af138 := goodAt Tryz.func138 tr138 nm138 rfl
def af139 : AFunc := ⟨[], (.seq (.region [⟨(some i6), none, .move (.t i0)⟩, ⟨(some i7), none, .move (.t i1)⟩, ⟨(some i8), none, .call i174 [(.t i6), (.t i7)]⟩])
  (.cond (.t i8) (.seq (.region [⟨(some i9), none, .move (.t i0)⟩, ⟨(some i10), none, .nilCheck (.t i9)⟩, ⟨(some i11), none, .fieldAddr 1 (.t i10)⟩, ⟨(some i12), none, .load none (.t i11)⟩, ⟨(some i13), none, .bin .add (.t i12) (.c (.int .u64 (.ofNat 1)))⟩, ⟨(some i14), none, .nilCheck (.t i9)⟩, ⟨(some i15), none, .fieldAddr 1 (.t i14)⟩, ⟨none, none, .store none (.t i15) (.t i13)⟩])
  (.region [⟨(some i16), none, .move (.t i2)⟩, ⟨(some i17), none, .move (.t i0)⟩, ⟨(some i18), none, .nilCheck (.t i17)⟩, ⟨(some i19), none, .fieldAddr 0 (.t i18)⟩, ⟨(some i20), none, .load none (.t i19)⟩, ⟨(some i21), none, .move (.t i1)⟩, ⟨(some i22), none, .indexSl 1 (.t i20) (.t i21)⟩, ⟨(some i23), none, .callv (.t i16) [(.t i22)]⟩]))
  .skip))⟩
theorem tr139 : trFunc (tyIn Tryz.prog tyn) ibn Tryz.f139 = some af139 := by kernel_rfl
theorem nm139 : (Tryz.f139.name == "runtime.NumGoroutine") = false := by kernel_rfl
theorem good139 : GoodAt Tryz.prog tyn ibn i139 af139 := goodAt Tryz.func139 tr139 nm139 rfl
def af140 : AFunc := ⟨[], (.drawn [⟨1, .v, ⟨(some i5), none, .move (.t i0)⟩⟩, ⟨2, .v, ⟨(some i6), none, .nilCheck (.t i5)⟩⟩, ⟨3, (.r 0), ⟨(some i7), none, .load none (.t i6)⟩⟩, ⟨9, .e, ⟨none, none, .store none (.t i2) (.t i7)⟩⟩, ⟨0, .v, ⟨(some i4), none, .move (.t i0)⟩⟩, ⟨4, .v, ⟨(some i8), none, .move (.t i0)⟩⟩, ⟨5, .v, ⟨(some i9), none, .nilCheck (.t i8)⟩⟩, ⟨6, (.r 1), ⟨(some i10), none, .load none (.t i9)⟩⟩, ⟨7, (.r 1), ⟨(some i11), none, .load none (.t i1)⟩⟩, ⟨8, .v, ⟨(some i12), none, .bin .add (.t i10) (.t i11)⟩⟩, ⟨10, .v, ⟨(some i13), none, .nilCheck (.t i4)⟩⟩, ⟨11, .e, ⟨none, none, .store none (.t i13) (.t i12)⟩⟩])⟩
theorem tr140 : trFunc (tyIn Tryz.prog tyn) ibn Tryz.f140 = some af140 := by kernel_rfl
theorem nm140 : (Tryz.f140.name == "runtime.NumGoroutine") = false := by kernel_rfl
theorem good140 : GoodAt Tryz.prog tyn ibn i140 af140 := goodAt Tryz.func140 tr140 nm140 rfl
def af141 : AFunc := ⟨[], (.region [⟨(some i3), none, .move (.t i0)⟩, ⟨(some i4), none, .nilCheck (.t i3)⟩, ⟨(some i5), none, .load none (.t i4)⟩, ⟨none, none, .store none (.t i1) (.t i5)⟩])⟩
theorem tr141 : trFunc (tyIn Tryz.prog tyn) ibn Tryz.f141 = some af141 := by kernel_rfl
theorem nm141 : (Tryz.f141.name == "runtime.NumGoroutine") = false := by kernel_rfl
theorem good141 : GoodAt Tryz.prog tyn ibn i141 af141 := goodAt Tryz.func141 tr141 nm141 rfl
def af142 : AFunc := ⟨[.cell i2 none], (.seq (.region [⟨(some i1), none, .box (.t i0)⟩, ⟨(some i2), none, .alloc [(.int .i64 (.ofNat 0))]⟩])
  (.seq (.drawn [⟨0, .e, ⟨(some i12), none, .call i175 []⟩⟩, ⟨1, .v, ⟨(some i13), none, .fieldAddr 1 (.t i1)⟩⟩, ⟨2, (.r 1), ⟨(some i14), none, .load none (.t i13)⟩⟩, ⟨3, (.r 0), ⟨(some i15), none, .lookup .int (.agg [(.str []), .nilslice]) true (.t i12) (.t i14)⟩⟩, ⟨4, .v, ⟨(some i11), none, .move (.t i15)⟩⟩, ⟨5, .v, ⟨(some i16), none, .extract 0 (.t i11)⟩⟩, ⟨7, .a, ⟨(some i3), none, .alloc [(.str []), .nilslice]⟩⟩, ⟨8, .e, ⟨none, none, .store (some 2) (.t i3) (.t i16)⟩⟩, ⟨6, .v, ⟨(some i17), none, .extract 1 (.t i11)⟩⟩, ⟨9, .v, ⟨(some i4), none, .move (.t i17)⟩⟩])
  (.seq (.region [⟨(some i18), none, .mkfn i176 [] [(.t i3)]⟩, ⟨(some i5), none, .alloc [.nilfn]⟩, ⟨none, none, .store none (.t i5) (.t i18)⟩])
  (.seq (.seq (.region [⟨(some i19), none, .move (.t i4)⟩, ⟨(some i20), none, .not (.t i19)⟩, ⟨(some i21), none, .move (.t i20)⟩, ⟨(some i22), (some (i21, false)), .fieldAddr 0 (.t i1)⟩, ⟨(some i23), (some (i21, false)), .load none (.t i22)⟩, ⟨(some i24), (some (i21, false)), .bin .lss (.t i23) (.c (.int .i64 (.ofNat 0)))⟩, ⟨(some i25), none, .pick (.t i21) (.c (.bool true)) (.t i24)⟩])
  (.cond (.t i25) (.seq (.region [⟨none, none, .store none (.t i2) (.c (.int .i64 (.ofNat 2)))⟩])
  .ret)
  .skip))
  (.seq (.seq (.region [⟨(some i26), none, .call i178 [(.t i1)]⟩])
  (.block 0 (.rangeFunc (.t i26) [i27, i28] (.seq (.region [⟨(some i6), none, .move (.t i27)⟩])
  (.region [⟨(some i7), none, .move (.t i28)⟩])) (.block 1 (.seq (.region [⟨(some i30), none, .fieldAddr 1 (.t i1)⟩, ⟨(some i31), none, .load none (.t i30)⟩, ⟨(some i32), none, .move (.t i6)⟩, ⟨(some i33), none, .call i179 [(.t i31), (.t i32)]⟩, ⟨(some i29), none, .move (.t i33)⟩, ⟨(some i34), none, .extract 0 (.t i29)⟩, ⟨(some i35), none, .extract 1 (.t i29)⟩, ⟨(some i8), none, .move (.t i34)⟩, ⟨(some i9), none, .move (.t i35)⟩])
  (.seq (.region [⟨(some i36), none, .load none (.t i5)⟩, ⟨(some i37), none, .move (.t i6)⟩, ⟨(some i38), none, .callv (.t i36) [(.t i37)]⟩, ⟨(some i39), none, .move (.t i38)⟩, ⟨(some i40), (some (i39, true)), .move (.t i7)⟩, ⟨(some i41), (some (i39, true)), .nilCheck (.t i40)⟩, ⟨(some i42), (some (i39, true)), .load none (.t i41)⟩, ⟨(some i43), (some (i39, true)), .move (.t i8)⟩, ⟨(some i44), (some (i39, true)), .bin .lss (.t i42) (.t i43)⟩, ⟨(some i45), (some (i39, true)), .move (.t i44)⟩, ⟨(some i46), (some (i45, false)), .move (.t i7)⟩, ⟨(some i47), (some (i45, false)), .nilCheck (.t i46)⟩, ⟨(some i48), (some (i45, false)), .load none (.t i47)⟩, ⟨(some i49), (some (i45, false)), .move (.t i9)⟩, ⟨(some i50), (some (i45, false)), .bin .gtr (.t i48) (.t i49)⟩, ⟨(some i51), (some (i39, true)), .pick (.t i45) (.c (.bool true)) (.t i50)⟩, ⟨(some i52), none, .pick (.t i39) (.t i51) (.c (.bool false))⟩, ⟨(some i53), none, .move (.t i52)⟩, ⟨(some i54), (some (i53, false)), .load none (.t i5)⟩, ⟨(some i55), (some (i53, false)), .move (.t i6)⟩, ⟨(some i56), (some (i53, false)), .callv (.t i54) [(.t i55)]⟩, ⟨(some i57), (some (i53, false)), .not (.t i56)⟩, ⟨(some i58), (some (i53, false)), .move (.t i57)⟩, ⟨(some i59), (some (i58, true)), .move (.t i7)⟩, ⟨(some i60), (some (i58, true)), .nilCheck (.t i59)⟩, ⟨(some i61), (some (i58, true)), .load none (.t i60)⟩, ⟨(some i62), (some (i58, true)), .bin (.ne .int) (.t i61) (.c (.int .i64 (.ofNat 0)))⟩, ⟨(some i63), (some (i53, false)), .pick (.t i58) (.t i62) (.c (.bool false))⟩, ⟨(some i64), none, .pick (.t i53) (.c (.bool true)) (.t i63)⟩])
  (.cond (.t i64) (.seq (.region [⟨none, none, .store none (.t i2) (.c (.int .i64 (.ofNat 2)))⟩])
  .ret)
  .skip)))))))
  (.seq (.region [⟨(some i65), none, .fieldAddr 11 (.t i1)⟩, ⟨(some i66), none, .load none (.t i65)⟩, ⟨(some i67), none, .bin .geq (.t i66) (.c (.int .i64 (.ofNat 140)))⟩, ⟨(some i68), none, .move (.t i67)⟩, ⟨(some i69), (some (i68, true)), .fieldAddr 11 (.t i1)⟩, ⟨(some i70), (some (i68, true)), .load none (.t i69)⟩, ⟨(some i71), (some (i68, true)), .bin .leq (.t i70) (.c (.int .i64 (.ofNat 143)))⟩, ⟨(some i72), none, .pick (.t i68) (.t i71) (.c (.bool false))⟩, ⟨(some i10), none, .move (.t i72)⟩])
  (.seq (.block 2 (.seq (.seq (.region [⟨(some i74), none, .load none (.t i5)⟩, ⟨(some i75), none, .callv (.t i74) [(.c (.str [118, 97, 108]))]⟩, ⟨(some i76), none, .not (.t i75)⟩, ⟨(some i77), none, .move (.t i76)⟩, ⟨(some i78), (some (i77, true)), .fieldAddr 8 (.t i1)⟩, ⟨(some i79), (some (i77, true)), .load none (.t i78)⟩, ⟨(some i80), (some (i77, true)), .bin (.ne .int) (.t i79) (.c (.int .i64 (.ofNat 0)))⟩, ⟨(some i81), none, .pick (.t i77) (.t i80) (.c (.bool false))⟩, ⟨(some i73), none, .move (.t i81)⟩])
  (.cond (.t i73) .skip
  (.seq (.region [⟨(some i82), none, .load none (.t i5)⟩, ⟨(some i83), none, .callv (.t i82) [(.c (.str [118, 97, 108, 50]))]⟩, ⟨(some i84), none, .not (.t i83)⟩, ⟨(some i85), none, .move (.t i84)⟩, ⟨(some i86), (some (i85, true)), .fieldAddr 9 (.t i1)⟩, ⟨(some i87), (some (i85, true)), .load none (.t i86)⟩, ⟨(some i88), (some (i85, true)), .bin (.ne .int) (.t i87) (.c (.int .i64 (.ofNat 0)))⟩, ⟨(some i89), none, .pick (.t i85) (.t i88) (.c (.bool false))⟩, ⟨(some i73), none, .move (.t i89)⟩])
  (.cond (.t i73) .skip
  (.seq (.region [⟨(some i90), none, .load none (.t i5)⟩, ⟨(some i91), none, .callv (.t i90) [(.c (.str [111, 107]))]⟩, ⟨(some i92), none, .not (.t i91)⟩, ⟨(some i93), none, .move (.t i92)⟩, ⟨(some i94), (some (i93, true)), .fieldAddr 10 (.t i1)⟩, ⟨(some i95), (some (i93, true)), .load none (.t i94)⟩, ⟨(some i96), none, .pick (.t i93) (.t i95) (.c (.bool false))⟩, ⟨(some i73), none, .move (.t i96)⟩])
  (.cond (.t i73) .skip
  (.region [⟨(some i97), none, .load none (.t i5)⟩, ⟨(some i98), none, .callv (.t i97) [(.c (.str [115, 101, 116]))]⟩, ⟨(some i99), none, .not (.t i98)⟩, ⟨(some i100), none, .move (.t i99)⟩, ⟨(some i101), (some (i100, true)), .fieldAddr 12 (.t i1)⟩, ⟨(some i102), (some (i100, true)), .load none (.t i101)⟩, ⟨(some i103), (some (i100, true)), .bin (.ne .int) (.t i102) (.c (.int .u64 (.ofNat 0)))⟩, ⟨(some i104), none, .pick (.t i100) (.t i103) (.c (.bool false))⟩, ⟨(some i73), none, .move (.t i104)⟩])))))))
  (.cond (.t i73) (.seq (.region [⟨none, none, .store none (.t i2) (.c (.int .i64 (.ofNat 2)))⟩])
  .ret)
  (.seq (.seq (.region [⟨(some i106), none, .load none (.t i5)⟩, ⟨(some i107), none, .callv (.t i106) [(.c (.str [99, 111, 100, 101]))]⟩, ⟨(some i108), none, .move (.t i107)⟩, ⟨(some i109), (some (i108, true)), .move (.t i10)⟩, ⟨(some i110), (some (i108, true)), .not (.t i109)⟩, ⟨(some i111), none, .pick (.t i108) (.t i110) (.c (.bool false))⟩, ⟨(some i105), none, .move (.t i111)⟩])
  (.cond (.t i105) .skip
  (.region [⟨(some i112), none, .load none (.t i5)⟩, ⟨(some i113), none, .callv (.t i112) [(.c (.str [99, 111, 100, 101]))]⟩, ⟨(some i114), none, .not (.t i113)⟩, ⟨(some i115), none, .move (.t i114)⟩, ⟨(some i116), (some (i115, true)), .fieldAddr 11 (.t i1)⟩, ⟨(some i117), (some (i115, true)), .load none (.t i116)⟩, ⟨(some i118), (some (i115, true)), .bin (.ne .int) (.t i117) (.c (.int .i64 (.ofNat 0)))⟩, ⟨(some i119), none, .pick (.t i115) (.t i118) (.c (.bool false))⟩, ⟨(some i105), none, .move (.t i119)⟩])))
  (.cond (.t i105) (.seq (.region [⟨none, none, .store none (.t i2) (.c (.int .i64 (.ofNat 2)))⟩])
  .ret)
  .skip)))))
  (.seq (.region [⟨none, none, .store none (.t i2) (.c (.int .i64 (.ofNat 0)))⟩])
  .ret))))))))⟩
theorem tr142 : trFunc (tyIn Tryz.prog tyn) ibn Tryz.f142 = some af142 := by kernel_rfl
theorem nm142 : (Tryz.f142.name == "runtime.NumGoroutine") = false := by kernel_rfl
theorem good142 : GoodAt Tryz.prog tyn ibn i142 af142 := goodAt Tryz.func142 tr142 nm142 rfl
def af143 : AFunc := ⟨[.cell i2 none], (.seq (.region [⟨(some i2), none, .alloc [(.int .i64 (.ofNat 0))]⟩])
  (.seq (.seq (.region [⟨(some i5), none, .move (.t i0)⟩, ⟨(some i6), none, .mkfn i83 [(.t i5)] []⟩])
  (.block 0 (.rangeFunc (.t i6) [i7, i8] (.region [⟨(some i4), none, .alloc [(.int .i64 (.ofNat 0)), (.int .u8 (.ofNat 0)), (.int .i64 (.ofNat 0)), (.int .i64 (.ofNat 0)), (.int .i64 (.ofNat 0)), (.int .i64 (.ofNat 0)), (.int .i64 (.ofNat 0)), (.int .i64 (.ofNat 0)), (.int .i64 (.ofNat 0)), (.int .i64 (.ofNat 0)), (.bool false), (.int .i64 (.ofNat 0)), (.int .u64 (.ofNat 0))]⟩, ⟨none, none, .store (some 13) (.t i4) (.t i8)⟩]) (.block 1 (.seq (.region [⟨(some i9), none, .fieldAddr 0 (.t i4)⟩, ⟨(some i10), none, .load none (.t i9)⟩, ⟨none, none, .store none (.t i2) (.t i10)⟩])
  .ret)))))
  (.seq (.region [⟨none, none, .store none (.t i2) (.c (.int .i64 (.negSucc 0)))⟩])
  .ret)))⟩
theorem tr143 : trFunc (tyIn Tryz.prog tyn) ibn Tryz.f143 = some af143 := by kernel_rfl
theorem nm143 : (Tryz.f143.name == "runtime.NumGoroutine") = false := by kernel_rfl
theorem good143 : GoodAt Tryz.prog tyn ibn i143 af143 := goodAt Tryz.func143 tr143 nm143 rfl
def af144 : AFunc := ⟨[.cell i2 none], (.seq (.region [⟨(some i2), none, .alloc [(.bool false)]⟩])
  (.scope (.seq .skip
  (.seq (.seq (.region [⟨(some i5), none, .move (.t i0)⟩, ⟨(some i6), none, .mkfn i83 [(.t i5)] []⟩])
  (.block 0 (.rangeFunc (.t i6) [i7, i8] (.region [⟨(some i4), none, .alloc [(.int .i64 (.ofNat 0)), (.int .u8 (.ofNat 0)), (.int .i64 (.ofNat 0)), (.int .i64 (.ofNat 0)), (.int .i64 (.ofNat 0)), (.int .i64 (.ofNat 0)), (.int .i64 (.ofNat 0)), (.int .i64 (.ofNat 0)), (.int .i64 (.ofNat 0)), (.int .i64 (.ofNat 0)), (.bool false), (.int .i64 (.ofNat 0)), (.int .u64 (.ofNat 0))]⟩, ⟨none, none, .store (some 13) (.t i4) (.t i8)⟩]) (.block 1 (.seq (.region [⟨(some i9), none, .fieldAddr 1 (.t i4)⟩, ⟨(some i10), none, .load none (.t i9)⟩, ⟨(some i11), none, .call i180 [(.t i10)]⟩])
  (.cond (.t i11) (.seq (.region [⟨(some i12), none, .fieldAddr 1 (.t i4)⟩, ⟨(some i13), none, .load none (.t i12)⟩, ⟨(some i14), none, .bin (.eq .int) (.t i13) (.c (.int .u8 (.ofNat 11)))⟩, ⟨none, none, .store none (.t i2) (.t i14)⟩])
  (.exit 0))
  .skip))))))
  (.seq (.region [⟨(some i15), none, .load none (.t i2)⟩, ⟨none, none, .store none (.t i2) (.t i15)⟩])
  .ret)))))⟩
theorem tr144 : trFunc (tyIn Tryz.prog tyn) ibn Tryz.f144 = some af144 := by kernel_rfl
theorem nm144 : (Tryz.f144.name == "runtime.NumGoroutine") = false := by kernel_rfl
theorem good144 : GoodAt Tryz.prog tyn ibn i144 af144 := goodAt Tryz.func144 tr144 nm144 rfl
def af145 : AFunc := ⟨[], (.region [⟨(some i5), none, .load none (.t i2)⟩, ⟨(some i6), none, .nilCheck (.t i5)⟩, ⟨(some i7), none, .fieldAddr 0 (.t i6)⟩, ⟨(some i8), none, .load none (.t i7)⟩, ⟨(some i9), none, .move (.t i1)⟩, ⟨(some i10), none, .call i108 [(.t i8), (.t i9), (.c (.int .u64 (.ofNat 1)))]⟩])⟩
theorem tr145 : trFunc (tyIn Tryz.prog tyn) ibn Tryz.f145 = some af145 := by kernel_rfl
theorem nm145 : (Tryz.f145.name == "runtime.NumGoroutine") = false := by kernel_rfl
theorem good145 : GoodAt Tryz.prog tyn ibn i145 af145 := goodAt Tryz.func145 tr145 nm145 rfl
def af146 : AFunc := ⟨[.tmp i3], (.seq (.region [⟨(some i3), none, .move (.c (.int .i64 (.ofNat 0)))⟩])
  (.seq (.drawn [⟨10, .e, ⟨none, none, .store (some 11) (.t i1) (.c (.agg [(.int .u8 (.ofNat 0)), (.int .i64 (.ofNat 0)), (.int .i64 (.ofNat 0)), (.int .i64 (.ofNat 0)), (.int .i64 (.ofNat 0)), (.int .i64 (.ofNat 0)), (.int .i64 (.ofNat 0)), (.int .i64 (.ofNat 0)), (.int .i64 (.ofNat 0)), (.int .i64 (.ofNat 0)), (.int .i64 (.ofNat 0))]))⟩⟩, ⟨0, .v, ⟨(some i4), none, .move (.t i0)⟩⟩, ⟨1, .v, ⟨(some i5), none, .nilCheck (.t i4)⟩⟩, ⟨2, .v, ⟨(some i6), none, .fieldAddr 0 (.t i5)⟩⟩, ⟨3, .v, ⟨(some i7), none, .fieldAddr 0 (.t i6)⟩⟩, ⟨4, (.r 1), ⟨(some i8), none, .load none (.t i7)⟩⟩, ⟨11, .v, ⟨(some i14), none, .fieldAddr 0 (.t i1)⟩⟩, ⟨12, .e, ⟨none, none, .store none (.t i14) (.t i8)⟩⟩, ⟨5, .v, ⟨(some i9), none, .move (.t i0)⟩⟩, ⟨6, .v, ⟨(some i10), none, .nilCheck (.t i9)⟩⟩, ⟨7, .v, ⟨(some i11), none, .fieldAddr 0 (.t i10)⟩⟩, ⟨8, .v, ⟨(some i12), none, .fieldAddr 1 (.t i11)⟩⟩, ⟨9, (.r 2), ⟨(some i13), none, .load (some 10) (.t i12)⟩⟩, ⟨13, .v, ⟨(some i15), none, .fieldAddr 1 (.t i1)⟩⟩, ⟨14, .e, ⟨none, none, .store (some 10) (.t i15) (.t i13)⟩⟩])
  (.seq (.region [⟨(some i3), none, .move (.c (.int .i64 (.ofNat 0)))⟩])
  .ret)))⟩
theorem tr146 : trFunc (tyIn Tryz.prog tyn) ibn Tryz.f146 = some af146 := by kernel_rfl
theorem nm146 : (Tryz.f146.name == "runtime.NumGoroutine") = false := by kernel_rfl
theorem good146 : GoodAt Tryz.prog tyn ibn i146 af146 := goodAt Tryz.func146 tr146 nm146 rfl
def af147 : AFunc := ⟨[.tmp i3], (.seq (.region [⟨(some i3), none, .move (.c (.int .i64 (.ofNat 0)))⟩])
  (.seq (.seq (.region [⟨(some i4), none, .move (.t i0)⟩, ⟨(some i5), none, .nilCheck (.t i4)⟩, ⟨(some i6), none, .fieldAddr 1 (.t i5)⟩, ⟨(some i7), none, .load none (.t i6)⟩, ⟨(some i8), none, .bin (.eq .ptr) (.t i7) (.c .nilptr)⟩])
  (.cond (.t i8) (.seq (.region [⟨(some i3), none, .move (.c (.int .i64 (.ofNat 3)))⟩])
  .ret)
  .skip))
  (.seq (.region [⟨(some i9), none, .move (.t i0)⟩, ⟨(some i10), none, .move (.t i0)⟩, ⟨(some i11), none, .nilCheck (.t i10)⟩, ⟨(some i12), none, .fieldAddr 1 (.t i11)⟩, ⟨(some i13), none, .load none (.t i12)⟩, ⟨(some i14), none, .nilCheck (.t i13)⟩, ⟨(some i15), none, .load (some 4) (.t i14)⟩, ⟨(some i16), none, .build [(.bool false), .nilptr] []⟩, ⟨none, none, .store (some 4) (.t i1) (.t i15)⟩, ⟨(some i17), none, .nilCheck (.t i9)⟩, ⟨none, none, .store (some 2) (.t i17) (.t i16)⟩])
  (.seq (.region [⟨(some i3), none, .move (.c (.int .i64 (.ofNat 0)))⟩])
  .ret))))⟩
theorem tr147 : trFunc (tyIn Tryz.prog tyn) ibn Tryz.f147 = some af147 := by kernel_rfl
theorem nm147 : (Tryz.f147.name == "runtime.NumGoroutine") = false := by kernel_rfl
theorem good147 : GoodAt Tryz.prog tyn ibn i147 af147 := goodAt Tryz.func147 tr147 nm147 rfl
def af148 : AFunc := ⟨[.tmp i3], (.seq (.region [⟨(some i3), none, .move (.c (.int .i64 (.ofNat 0)))⟩])
  (.seq (.region [⟨(some i4), none, .move (.t i0)⟩, ⟨(some i5), none, .nilCheck (.t i4)⟩, ⟨(some i6), none, .fieldAddr 12 (.t i5)⟩, ⟨(some i7), none, .load none (.t i6)⟩, ⟨(some i8), none, .call i72 [(.t i7)]⟩, ⟨none, none, .store none (.t i1) (.t i8)⟩])
  (.seq (.region [⟨(some i9), none, .move (.t i0)⟩, ⟨(some i10), none, .nilCheck (.t i9)⟩, ⟨(some i11), none, .fieldAddr 12 (.t i10)⟩, ⟨none, none, .store none (.t i11) (.c .nilslice)⟩])
  (.seq (.region [⟨(some i3), none, .move (.c (.int .i64 (.ofNat 0)))⟩])
  .ret))))⟩
theorem tr148 : trFunc (tyIn Tryz.prog tyn) ibn Tryz.f148 = some af148 := by kernel_rfl
theorem nm148 : (Tryz.f148.name == "runtime.NumGoroutine") = false := by kernel_rfl
theorem good148 : GoodAt Tryz.prog tyn ibn i148 af148 := goodAt Tryz.func148 tr148 nm148 rfl
def af149 : AFunc := ⟨[.tmp i4], (.seq (.region [⟨(some i4), none, .move (.c (.int .i64 (.ofNat 0)))⟩])
  (.seq (.block 0 (.seq (.region [⟨(some i6), none, .move (.t i0)⟩, ⟨(some i7), none, .bin (.eq .ptr) (.t i6) (.c .nilptr)⟩, ⟨(some i5), none, .move (.t i7)⟩])
  (.cond (.t i5) (.seq (.region [⟨(some i4), none, .move (.c (.int .i64 (.ofNat 1)))⟩])
  .ret)
  (.seq (.region [⟨(some i9), none, .move (.t i1)⟩, ⟨(some i10), none, .bin .lss (.t i9) (.c (.int .i64 (.ofNat 0)))⟩, ⟨(some i11), none, .move (.t i10)⟩, ⟨(some i12), (some (i11, false)), .move (.t i1)⟩, ⟨(some i13), (some (i11, false)), .move (.t i0)⟩, ⟨(some i14), (some (i11, false)), .nilCheck (.t i13)⟩, ⟨(some i15), (some (i11, false)), .fieldAddr 0 (.t i14)⟩, ⟨(some i16), (some (i11, false)), .load none (.t i15)⟩, ⟨(some i17), (some (i11, false)), .lenSl (.t i16)⟩, ⟨(some i18), (some (i11, false)), .bin .geq (.t i12) (.t i17)⟩, ⟨(some i19), none, .pick (.t i11) (.c (.bool true)) (.t i18)⟩, ⟨(some i8), none, .move (.t i19)⟩])
  (.cond (.t i8) (.seq (.region [⟨(some i4), none, .move (.c (.int .i64 (.ofNat 3)))⟩])
  .ret)
  (.seq (.region [⟨(some i21), none, .move (.t i0)⟩, ⟨(some i22), none, .nilCheck (.t i21)⟩, ⟨(some i23), none, .fieldAddr 0 (.t i22)⟩, ⟨(some i24), none, .load none (.t i23)⟩, ⟨(some i25), none, .move (.t i1)⟩, ⟨(some i26), none, .indexSl 7 (.t i24) (.t i25)⟩, ⟨(some i27), none, .fieldAddr 0 (.t i26)⟩, ⟨(some i28), none, .load none (.t i27)⟩, ⟨(some i29), none, .not (.t i28)⟩, ⟨(some i20), none, .move (.t i29)⟩])
  (.cond (.t i20) (.seq (.region [⟨(some i4), none, .move (.c (.int .i64 (.ofNat 3)))⟩])
  .ret)
  .skip)))))))
  (.seq (.drawn [⟨0, .v, ⟨(some i30), none, .move (.t i0)⟩⟩, ⟨1, .v, ⟨(some i31), none, .nilCheck (.t i30)⟩⟩, ⟨2, .v, ⟨(some i32), none, .fieldAddr 0 (.t i31)⟩⟩, ⟨3, (.r 0), ⟨(some i33), none, .load none (.t i32)⟩⟩, ⟨4, .v, ⟨(some i34), none, .move (.t i1)⟩⟩, ⟨5, .v, ⟨(some i35), none, .move (.t i0)⟩⟩, ⟨6, .v, ⟨(some i36), none, .nilCheck (.t i35)⟩⟩, ⟨7, .v, ⟨(some i37), none, .fieldAddr 1 (.t i36)⟩⟩, ⟨8, (.r 0), ⟨(some i38), none, .load none (.t i37)⟩⟩, ⟨9, .v, ⟨(some i39), none, .build [(.bool false), (.int .i64 (.ofNat 0)), (.int .i64 (.ofNat 0)), (.bool false), (.int .i64 (.ofNat 0)), (.int .u64 (.ofNat 0)), (.int .i64 (.ofNat 0))] [(6, 1, (.t i38))]⟩⟩, ⟨10, .v, ⟨(some i40), none, .indexSl 7 (.t i33) (.t i34)⟩⟩, ⟨11, .e, ⟨none, none, .store (some 7) (.t i40) (.t i39)⟩⟩])
  (.seq (.region [⟨(some i41), none, .move (.t i0)⟩, ⟨(some i42), none, .move (.t i1)⟩, ⟨(some i43), none, .nilCheck (.t i41)⟩, ⟨(some i44), none, .fieldAddr 1 (.t i43)⟩, ⟨none, none, .store none (.t i44) (.t i42)⟩])
  (.seq (.region [⟨(some i45), none, .move (.t i0)⟩, ⟨(some i46), none, .nilCheck (.t i45)⟩, ⟨(some i47), none, .fieldAddr 2 (.t i46)⟩, ⟨(some i48), none, .load none (.t i47)⟩, ⟨(some i49), none, .bin .sub (.t i48) (.c (.int .i64 (.ofNat 1)))⟩, ⟨(some i50), none, .nilCheck (.t i45)⟩, ⟨(some i51), none, .fieldAddr 2 (.t i50)⟩, ⟨none, none, .store none (.t i51) (.t i49)⟩])
  (.seq (.region [⟨(some i4), none, .move (.c (.int .i64 (.ofNat 0)))⟩])
  .ret))))))⟩
theorem tr149 : trFunc (tyIn Tryz.prog tyn) ibn Tryz.f149 = some af149 := by kernel_rfl
theorem nm149 : (Tryz.f149.name == "runtime.NumGoroutine") = false := by kernel_rfl
theorem good149 : GoodAt Tryz.prog tyn ibn i149 af149 := goodAt Tryz.func149 tr149 nm149 rfl
def af150 : AFunc := ⟨[], (.seq (.drawn [⟨4, .v, ⟨(some i11), none, .move (.t i0)⟩⟩, ⟨5, .v, ⟨(some i12), none, .move (.t i1)⟩⟩, ⟨6, .e, ⟨(some i13), none, .call i95 [(.t i11), (.t i12)]⟩⟩, ⟨0, .v, ⟨(some i7), none, .move (.t i0)⟩⟩, ⟨1, .v, ⟨(some i8), none, .nilCheck (.t i7)⟩⟩, ⟨2, .v, ⟨(some i9), none, .fieldAddr 1 (.t i8)⟩⟩, ⟨3, (.r 1), ⟨(some i10), none, .load (some 3) (.t i9)⟩⟩, ⟨7, .v, ⟨(some i14), none, .move (.t i1)⟩⟩, ⟨8, .v, ⟨(some i15), none, .nilCheck (.t i14)⟩⟩, ⟨9, .v, ⟨(some i16), none, .fieldAddr 28 (.t i15)⟩⟩, ⟨10, .v, ⟨(some i17), none, .fieldAddr 0 (.t i16)⟩⟩, ⟨11, (.r 1), ⟨(some i18), none, .load none (.t i17)⟩⟩, ⟨12, .v, ⟨(some i19), none, .move (.t i1)⟩⟩, ⟨13, .v, ⟨(some i20), none, .nilCheck (.t i19)⟩⟩, ⟨14, .v, ⟨(some i21), none, .fieldAddr 28 (.t i20)⟩⟩, ⟨15, .v, ⟨(some i22), none, .fieldAddr 1 (.t i21)⟩⟩, ⟨16, (.r 1), ⟨(some i23), none, .load none (.t i22)⟩⟩, ⟨17, .v, ⟨(some i24), none, .move (.t i1)⟩⟩, ⟨18, .v, ⟨(some i25), none, .nilCheck (.t i24)⟩⟩, ⟨19, .v, ⟨(some i26), none, .fieldAddr 28 (.t i25)⟩⟩, ⟨20, .v, ⟨(some i27), none, .fieldAddr 2 (.t i26)⟩⟩, ⟨21, (.r 1), ⟨(some i28), none, .load none (.t i27)⟩⟩, ⟨22, .e, ⟨(some i29), none, .call i181 [(.t i10), (.t i13), (.t i18), (.t i23), (.t i28)]⟩⟩, ⟨23, .v, ⟨(some i6), none, .move (.t i29)⟩⟩, ⟨24, .v, ⟨(some i30), none, .extract 0 (.t i6)⟩⟩, ⟨26, .a, ⟨(some i4), none, .alloc [(.int .i64 (.ofNat 0)), (.int .i64 (.ofNat 0)), (.int .i64 (.ofNat 0)), (.int .i64 (.ofNat 0)), (.int .i64 (.ofNat 0)), (.int .i64 (.ofNat 0)), (.int .i64 (.ofNat 0)), (.int .i64 (.ofNat 0)), (.int .i64 (.ofNat 0)), (.int .i64 (.ofNat 0))]⟩⟩, ⟨27, .e, ⟨none, none, .store (some 10) (.t i4) (.t i30)⟩⟩, ⟨25, .v, ⟨(some i31), none, .extract 1 (.t i6)⟩⟩, ⟨28, .v, ⟨(some i5), none, .move (.t i31)⟩⟩])
  (.seq (.drawn [⟨0, .v, ⟨(some i32), none, .move (.t i0)⟩⟩, ⟨1, .v, ⟨(some i33), none, .nilCheck (.t i32)⟩⟩, ⟨2, .v, ⟨(some i34), none, .fieldAddr 12 (.t i33)⟩⟩, ⟨3, (.r 0), ⟨(some i35), none, .load none (.t i34)⟩⟩, ⟨4, .v, ⟨(some i36), none, .move (.t i1)⟩⟩, ⟨5, .v, ⟨(some i37), none, .nilCheck (.t i36)⟩⟩, ⟨6, .v, ⟨(some i38), none, .fieldAddr 9 (.t i37)⟩⟩, ⟨7, (.r 0), ⟨(some i39), none, .load none (.t i38)⟩⟩, ⟨8, (.r 0), ⟨(some i40), none, .load (some 10) (.t i4)⟩⟩, ⟨9, .v, ⟨(some i41), none, .build [(.int .u8 (.ofNat 0)), (.int .i64 (.ofNat 0)), (.int .i64 (.ofNat 0)), (.int .i64 (.ofNat 0)), (.int .i64 (.ofNat 0)), (.int .i64 (.ofNat 0)), (.int .i64 (.ofNat 0)), (.int .i64 (.ofNat 0)), (.int .i64 (.ofNat 0)), (.int .i64 (.ofNat 0)), (.int .i64 (.ofNat 0))] [(0, 1, (.c (.int .u8 (.ofNat 1)))), (1, 10, (.t i40))]⟩⟩, ⟨10, .e, ⟨(some i42), none, .call i101 [(.t i35), (.t i39), (.t i41)]⟩⟩])
  (.seq (.seq (.region [⟨(some i43), none, .move (.t i1)⟩, ⟨(some i44), none, .nilCheck (.t i43)⟩, ⟨(some i45), none, .fieldAddr 15 (.t i44)⟩, ⟨(some i46), none, .load none (.t i45)⟩, ⟨(some i47), none, .bin .geq (.t i46) (.c (.int .i64 (.ofNat 0)))⟩])
  (.cond (.t i47) (.drawn [⟨0, .v, ⟨(some i48), none, .move (.t i0)⟩⟩, ⟨1, .v, ⟨(some i49), none, .nilCheck (.t i48)⟩⟩, ⟨2, .v, ⟨(some i50), none, .fieldAddr 12 (.t i49)⟩⟩, ⟨3, (.r 0), ⟨(some i51), none, .load none (.t i50)⟩⟩, ⟨4, .v, ⟨(some i52), none, .move (.t i1)⟩⟩, ⟨5, .v, ⟨(some i53), none, .nilCheck (.t i52)⟩⟩, ⟨6, .v, ⟨(some i54), none, .fieldAddr 9 (.t i53)⟩⟩, ⟨7, (.r 0), ⟨(some i55), none, .load none (.t i54)⟩⟩, ⟨8, .v, ⟨(some i56), none, .move (.t i1)⟩⟩, ⟨9, .v, ⟨(some i57), none, .nilCheck (.t i56)⟩⟩, ⟨10, .v, ⟨(some i58), none, .fieldAddr 15 (.t i57)⟩⟩, ⟨11, (.r 0), ⟨(some i59), none, .load none (.t i58)⟩⟩, ⟨12, .v, ⟨(some i60), none, .move (.t i1)⟩⟩, ⟨13, .v, ⟨(some i61), none, .nilCheck (.t i60)⟩⟩, ⟨14, .v, ⟨(some i62), none, .fieldAddr 28 (.t i61)⟩⟩, ⟨15, .v, ⟨(some i63), none, .fieldAddr 0 (.t i62)⟩⟩, ⟨16, (.r 0), ⟨(some i64), none, .load none (.t i63)⟩⟩, ⟨17, .e, ⟨(some i65), none, .call i182 [(.t i51), (.t i55), (.t i59), (.t i64)]⟩⟩])
  .skip))
  (.seq (.region [⟨(some i66), none, .move (.t i1)⟩, ⟨(some i67), none, .nilCheck (.t i66)⟩, ⟨(some i68), none, .fieldAddr 10 (.t i67)⟩, ⟨(some i69), none, .load none (.t i68)⟩, ⟨(some i70), none, .bin .add (.t i69) (.c (.int .i64 (.ofNat 1)))⟩, ⟨(some i71), none, .nilCheck (.t i66)⟩, ⟨(some i72), none, .fieldAddr 10 (.t i71)⟩, ⟨none, none, .store none (.t i72) (.t i70)⟩])
  (.region [⟨(some i73), none, .move (.t i1)⟩, ⟨(some i74), none, .nilCheck (.t i73)⟩, ⟨(some i75), none, .fieldAddr 1 (.t i74)⟩, ⟨none, none, .store none (.t i75) (.c (.fn i81 [] []))⟩])))))⟩
theorem tr150 : trFunc (tyIn Tryz.prog tyn) ibn Tryz.f150 = some af150 := by kernel_rfl
theorem nm150 : (Tryz.f150.name == "runtime.NumGoroutine") = false := by kernel_rfl
theorem good150 : GoodAt Tryz.prog tyn ibn i150 af150 := goodAt Tryz.func150 tr150 nm150 rfl
def af151 : AFunc := ⟨[.cell i4 (some 5), .tmp i5], (.seq (.region [⟨(some i4), none, .alloc [(.int .i64 (.ofNat 0)), (.int .i64 (.ofNat 0)), (.bool false), (.int .i64 (.ofNat 0)), (.int .u64 (.ofNat 0))]⟩, ⟨(some i5), none, .move (.c (.bool false))⟩])
  (.seq (.seq (.region [⟨(some i6), none, .move (.t i0)⟩, ⟨(some i7), none, .bin (.eq .ptr) (.t i6) (.c .nilptr)⟩, ⟨(some i8), none, .move (.t i7)⟩, ⟨(some i9), (some (i8, false)), .move (.t i1)⟩, ⟨(some i10), (some (i8, false)), .bin .lss (.t i9) (.c (.int .i64 (.ofNat 0)))⟩, ⟨(some i11), none, .pick (.t i8) (.c (.bool true)) (.t i10)⟩, ⟨(some i12), none, .move (.t i11)⟩, ⟨(some i13), (some (i12, false)), .move (.t i1)⟩, ⟨(some i14), (some (i12, false)), .move (.t i0)⟩, ⟨(some i15), (some (i12, false)), .nilCheck (.t i14)⟩, ⟨(some i16), (some (i12, false)), .fieldAddr 0 (.t i15)⟩, ⟨(some i17), (some (i12, false)), .load none (.t i16)⟩, ⟨(some i18), (some (i12, false)), .lenSl (.t i17)⟩, ⟨(some i19), (some (i12, false)), .bin .geq (.t i13) (.t i18)⟩, ⟨(some i20), none, .pick (.t i12) (.c (.bool true)) (.t i19)⟩])
  (.cond (.t i20) (.seq (.region [⟨(some i21), none, .build [(.int .i64 (.ofNat 0)), (.int .i64 (.ofNat 0)), (.bool false), (.int .i64 (.ofNat 0)), (.int .u64 (.ofNat 0))] []⟩, ⟨none, none, .store (some 5) (.t i4) (.t i21)⟩, ⟨(some i5), none, .move (.c (.bool false))⟩])
  .ret)
  .skip))
  (.seq (.drawn [⟨0, .v, ⟨(some i22), none, .move (.t i0)⟩⟩, ⟨1, .v, ⟨(some i23), none, .nilCheck (.t i22)⟩⟩, ⟨2, .v, ⟨(some i24), none, .fieldAddr 0 (.t i23)⟩⟩, ⟨3, (.r 0), ⟨(some i25), none, .load none (.t i24)⟩⟩, ⟨4, .v, ⟨(some i26), none, .move (.t i1)⟩⟩, ⟨5, .v, ⟨(some i27), none, .indexSl 7 (.t i25) (.t i26)⟩⟩, ⟨6, .v, ⟨(some i28), none, .fieldAddr 1 (.t i27)⟩⟩, ⟨7, (.r 0), ⟨(some i29), none, .load (some 5) (.t i28)⟩⟩, ⟨16, .e, ⟨none, none, .store (some 5) (.t i4) (.t i29)⟩⟩, ⟨8, .v, ⟨(some i30), none, .move (.t i0)⟩⟩, ⟨9, .v, ⟨(some i31), none, .nilCheck (.t i30)⟩⟩, ⟨10, .v, ⟨(some i32), none, .fieldAddr 0 (.t i31)⟩⟩, ⟨11, (.r 1), ⟨(some i33), none, .load none (.t i32)⟩⟩, ⟨12, .v, ⟨(some i34), none, .move (.t i1)⟩⟩, ⟨13, .v, ⟨(some i35), none, .indexSl 7 (.t i33) (.t i34)⟩⟩, ⟨14, .v, ⟨(some i36), none, .fieldAddr 0 (.t i35)⟩⟩, ⟨15, (.r 1), ⟨(some i37), none, .load none (.t i36)⟩⟩, ⟨17, .v, ⟨(some i5), none, .move (.t i37)⟩⟩])
  .ret)))⟩
theorem tr151 : trFunc (tyIn Tryz.prog tyn) ibn Tryz.f151 = some af151 := by kernel_rfl
theorem nm151 : (Tryz.f151.name == "runtime.NumGoroutine") = false := by kernel_rfl
theorem good151 : GoodAt Tryz.prog tyn ibn i151 af151 := goodAt Tryz.func151 tr151 nm151 rfl
def af152 : AFunc := ⟨[.tmp i6], (.seq (.region [⟨(some i6), none, .move (.c (.bool false))⟩])
  (.seq (.region [⟨(some i7), none, .move (.t i0)⟩, ⟨(some i8), none, .move (.t i1)⟩, ⟨(some i9), none, .call i183 [(.t i7), (.t i8)]⟩, ⟨(some i10), none, .move (.t i2)⟩, ⟨(some i11), none, .call i184 [(.t i9), (.t i10)]⟩, ⟨(some i6), none, .move (.t i11)⟩])
  .ret))⟩
theorem tr152 : trFunc (tyIn Tryz.prog tyn) ibn Tryz.f152 = some af152 := by kernel_rfl
theorem nm152 : (Tryz.f152.name == "runtime.NumGoroutine") = false := by kernel_rfl
theorem good152 : GoodAt Tryz.prog tyn ibn i152 af152 := goodAt Tryz.func152 tr152 nm152 rfl
def af153 : AFunc := ⟨[.tmp i6], (.seq (.region [⟨(some i6), none, .move (.c (.int .i64 (.ofNat 0)))⟩])
  (.seq (.region [⟨(some i7), none, .move (.t i0)⟩, ⟨(some i8), none, .move (.t i1)⟩, ⟨(some i9), none, .call i183 [(.t i7), (.t i8)]⟩, ⟨(some i10), none, .move (.t i2)⟩, ⟨(some i11), none, .call i185 [(.t i9), (.t i10)]⟩, ⟨(some i6), none, .move (.t i11)⟩])
  .ret))⟩
theorem tr153 : trFunc (tyIn Tryz.prog tyn) ibn Tryz.f153 = some af153 := by kernel_rfl
theorem nm153 : (Tryz.f153.name == "runtime.NumGoroutine") = false := by kernel_rfl
theorem good153 : GoodAt Tryz.prog tyn ibn i153 af153 := goodAt Tryz.func153 tr153 nm153 rfl
def af154 : AFunc := ⟨[], (.seq (.seq (.region [⟨(some i4), none, .move (.t i1)⟩, ⟨(some i5), none, .nilCheck (.t i4)⟩, ⟨(some i6), none, .fieldAddr 26 (.t i5)⟩, ⟨(some i7), none, .load none (.t i6)⟩, ⟨(some i8), none, .lenSl (.t i7)⟩, ⟨(some i9), none, .bin .gtr (.t i8) (.c (.int .i64 (.ofNat 0)))⟩])
  (.cond (.t i9) (.seq (.region [⟨(some i10), none, .move (.t i1)⟩, ⟨(some i11), none, .buildSlice [(.int .i64 (.ofNat 0))] 1 [(0, 1, (.c (.int .i64 (.ofNat 0))))]⟩, ⟨(some i12), none, .call i64 [(.t i10), (.c (.fn i186 [] [])), (.t i11)]⟩])
  .ret)
  .skip))
  (.region [⟨(some i13), none, .move (.t i1)⟩, ⟨(some i14), none, .nilCheck (.t i13)⟩, ⟨(some i15), none, .fieldAddr 1 (.t i14)⟩, ⟨none, none, .store none (.t i15) (.c (.fn i150 [] []))⟩]))⟩
theorem tr154 : trFunc (tyIn Tryz.prog tyn) ibn Tryz.f154 = some af154 := by kernel_rfl
theorem nm154 : (Tryz.f154.name == "runtime.NumGoroutine") = false := by kernel_rfl
theorem good154 : GoodAt Tryz.prog tyn ibn i154 af154 := goodAt Tryz.func154 tr154 nm154 rfl
def af155 : AFunc := ⟨[.tmp i2], (.seq (.region [⟨(some i1), none, .box (.t i0)⟩, ⟨(some i2), none, .move (.c .nilslice)⟩])
  (.seq (.region [⟨(some i3), none, .load (some 2) (.t i1)⟩, ⟨(some i4), none, .buildSlice [.nilslice, (.bool false)] 1 [(0, 2, (.t i3))]⟩, ⟨(some i5), none, .call i187 [(.t i4)]⟩, ⟨(some i2), none, .move (.t i5)⟩])
  .ret))⟩
theorem tr155 : trFunc (tyIn Tryz.prog tyn) ibn Tryz.f155 = some af155 := by kernel_rfl
theorem nm155 : (Tryz.f155.name == "runtime.NumGoroutine") = false := by kernel_rfl
theorem good155 : GoodAt Tryz.prog tyn ibn i155 af155 := goodAt Tryz.func155 tr155 nm155 rfl
def af156 : AFunc := ⟨[], (.seq (.region [⟨(some i3), none, .box (.t i1)⟩])
  (.drawn [⟨0, .v, ⟨(some i4), none, .move (.t i0)⟩⟩, ⟨1, .v, ⟨(some i5), none, .fieldAddr 1 (.t i3)⟩⟩, ⟨2, (.r 0), ⟨(some i6), none, .load none (.t i5)⟩⟩, ⟨3, .v, ⟨(some i7), none, .fieldAddr 4 (.t i3)⟩⟩, ⟨4, (.r 0), ⟨(some i8), none, .load none (.t i7)⟩⟩, ⟨5, .v, ⟨(some i9), none, .nilCheck (.t i4)⟩⟩, ⟨6, .v, ⟨(some i10), none, .fieldAddr 2 (.t i9)⟩⟩, ⟨7, .v, ⟨(some i11), none, .indexArr 8 1 (.t i10) (.t i6)⟩⟩, ⟨8, .e, ⟨none, none, .store none (.t i11) (.t i8)⟩⟩]))⟩
theorem tr156 : trFunc (tyIn Tryz.prog tyn) ibn Tryz.f156 = some af156 := by kernel_rfl
theorem nm156 : (Tryz.f156.name == "runtime.NumGoroutine") = false := by kernel_rfl
theorem good156 : GoodAt Tryz.prog tyn ibn i156 af156 := goodAt Tryz.func156 tr156 nm156 rfl
def af157 : AFunc := ⟨[], (.seq (.region [⟨(some i3), none, .box (.t i1)⟩])
  (.drawn [⟨0, .v, ⟨(some i4), none, .move (.t i0)⟩⟩, ⟨1, .v, ⟨(some i5), none, .fieldAddr 1 (.t i3)⟩⟩, ⟨2, (.r 0), ⟨(some i6), none, .load none (.t i5)⟩⟩, ⟨3, .v, ⟨(some i7), none, .nilCheck (.t i4)⟩⟩, ⟨4, .v, ⟨(some i8), none, .fieldAddr 2 (.t i7)⟩⟩, ⟨5, .v, ⟨(some i9), none, .indexArr 8 1 (.t i8) (.t i6)⟩⟩, ⟨6, (.r 0), ⟨(some i10), none, .load none (.t i9)⟩⟩, ⟨7, .v, ⟨(some i11), none, .move (.t i0)⟩⟩, ⟨8, .v, ⟨(some i12), none, .fieldAddr 2 (.t i3)⟩⟩, ⟨9, (.r 0), ⟨(some i13), none, .load none (.t i12)⟩⟩, ⟨10, .v, ⟨(some i14), none, .nilCheck (.t i11)⟩⟩, ⟨11, .v, ⟨(some i15), none, .fieldAddr 2 (.t i14)⟩⟩, ⟨12, .v, ⟨(some i16), none, .indexArr 8 1 (.t i15) (.t i13)⟩⟩, ⟨13, (.r 0), ⟨(some i17), none, .load none (.t i16)⟩⟩, ⟨14, .v, ⟨(some i18), none, .bin .add (.t i10) (.t i17)⟩⟩, ⟨15, .v, ⟨(some i19), none, .nilCheck (.t i4)⟩⟩, ⟨16, .v, ⟨(some i20), none, .fieldAddr 2 (.t i19)⟩⟩, ⟨17, .v, ⟨(some i21), none, .indexArr 8 1 (.t i20) (.t i6)⟩⟩, ⟨18, .e, ⟨none, none, .store none (.t i21) (.t i18)⟩⟩]))⟩
theorem tr157 : trFunc (tyIn Tryz.prog tyn) ibn Tryz.f157 = some af157 := by kernel_rfl
theorem nm157 : (Tryz.f157.name == "runtime.NumGoroutine") = false := by kernel_rfl
theorem good157 : GoodAt Tryz.prog tyn ibn i157 af157 := goodAt Tryz.func157 tr157 nm157 rfl
def af158 : AFunc := ⟨[], (.seq (.region [⟨(some i3), none, .box (.t i1)⟩])
  (.region [⟨(some i4), none, .move (.t i0)⟩, ⟨(some i5), none, .fieldAddr 4 (.t i3)⟩, ⟨(some i6), none, .load none (.t i5)⟩, ⟨(some i7), none, .nilCheck (.t i4)⟩, ⟨(some i8), none, .fieldAddr 1 (.t i7)⟩, ⟨none, none, .store none (.t i8) (.t i6)⟩]))⟩
theorem tr158 : trFunc (tyIn Tryz.prog tyn) ibn Tryz.f158 = some af158 := by kernel_rfl
theorem nm158 : (Tryz.f158.name == "runtime.NumGoroutine") = false := by kernel_rfl
theorem good158 : GoodAt Tryz.prog tyn ibn i158 af158 := goodAt Tryz.func158 tr158 nm158 rfl
def af159 : AFunc := ⟨[], (.seq (.region [⟨(some i3), none, .box (.t i1)⟩])
  (.seq (.drawn [⟨0, .v, ⟨(some i4), none, .move (.t i0)⟩⟩, ⟨1, .v, ⟨(some i5), none, .fieldAddr 1 (.t i3)⟩⟩, ⟨2, (.r 0), ⟨(some i6), none, .load none (.t i5)⟩⟩, ⟨3, .v, ⟨(some i7), none, .nilCheck (.t i4)⟩⟩, ⟨4, .v, ⟨(some i8), none, .fieldAddr 2 (.t i7)⟩⟩, ⟨5, .v, ⟨(some i9), none, .indexArr 8 1 (.t i8) (.t i6)⟩⟩, ⟨6, (.r 0), ⟨(some i10), none, .load none (.t i9)⟩⟩, ⟨7, .v, ⟨(some i11), none, .bin (.eq .int) (.t i10) (.c (.int .i64 (.ofNat 0)))⟩⟩])
  (.cond (.t i11) (.region [⟨(some i12), none, .move (.t i0)⟩, ⟨(some i13), none, .fieldAddr 4 (.t i3)⟩, ⟨(some i14), none, .load none (.t i13)⟩, ⟨(some i15), none, .nilCheck (.t i12)⟩, ⟨(some i16), none, .fieldAddr 1 (.t i15)⟩, ⟨none, none, .store none (.t i16) (.t i14)⟩])
  .skip)))⟩
theorem tr159 : trFunc (tyIn Tryz.prog tyn) ibn Tryz.f159 = some af159 := by kernel_rfl
theorem nm159 : (Tryz.f159.name == "runtime.NumGoroutine") = false := by kernel_rfl
theorem good159 : GoodAt Tryz.prog tyn ibn i159 af159 := goodAt Tryz.func159 tr159 nm159 rfl
def af160 : AFunc := ⟨[.tmp i6], (.seq (.region [⟨(some i5), none, .box (.t i2)⟩, ⟨(some i6), none, .move (.c (.bool false))⟩])
  (.seq (.seq (.region [⟨(some i7), none, .fieldAddr 0 (.t i5)⟩, ⟨(some i8), none, .load none (.t i7)⟩])
  (.block 0 (.seq (.region [⟨(some i10), none, .bin (.eq .int) (.t i8) (.c (.int .u8 (.ofNat 1)))⟩, ⟨(some i9), none, .move (.t i10)⟩])
  (.cond (.t i9) (.region [⟨(some i11), none, .move (.t i0)⟩, ⟨(some i12), none, .move (.t i1)⟩, ⟨(some i13), none, .nilCheck (.t i12)⟩, ⟨(some i14), none, .fieldAddr 9 (.t i13)⟩, ⟨(some i15), none, .load none (.t i14)⟩, ⟨(some i16), none, .call i130 [(.t i11), (.t i15), (.c (.int .i64 (.negSucc 0))), (.c (.int .i64 (.ofNat 140)))]⟩])
  (.seq (.region [⟨(some i18), none, .bin (.eq .int) (.t i8) (.c (.int .u8 (.ofNat 2)))⟩, ⟨(some i17), none, .move (.t i18)⟩])
  (.cond (.t i17) (.region [⟨(some i19), none, .move (.t i1)⟩, ⟨(some i20), none, .move (.t i1)⟩, ⟨(some i21), none, .fieldAddr 1 (.t i5)⟩, ⟨(some i22), none, .load none (.t i21)⟩, ⟨(some i23), none, .nilCheck (.t i19)⟩, ⟨(some i24), none, .fieldAddr 18 (.t i23)⟩, ⟨none, none, .store none (.t i24) (.t i22)⟩, ⟨(some i25), none, .nilCheck (.t i20)⟩, ⟨(some i26), none, .fieldAddr 1 (.t i25)⟩, ⟨none, none, .store none (.t i26) (.c (.fn i188 [] []))⟩])
  (.seq (.region [⟨(some i28), none, .bin (.eq .int) (.t i8) (.c (.int .u8 (.ofNat 3)))⟩, ⟨(some i27), none, .move (.t i28)⟩])
  (.cond (.t i27) (.region [⟨(some i29), none, .move (.t i1)⟩, ⟨(some i30), none, .nilCheck (.t i29)⟩, ⟨(some i31), none, .fieldAddr 1 (.t i30)⟩, ⟨none, none, .store none (.t i31) (.c (.fn i189 [] []))⟩])
  (.seq (.region [⟨(some i33), none, .bin (.eq .int) (.t i8) (.c (.int .u8 (.ofNat 4)))⟩, ⟨(some i32), none, .move (.t i33)⟩])
  (.cond (.t i32) (.seq (.drawn [⟨0, .v, ⟨(some i34), none, .move (.t i0)⟩⟩, ⟨1, .v, ⟨(some i35), none, .move (.t i1)⟩⟩, ⟨2, .v, ⟨(some i36), none, .nilCheck (.t i35)⟩⟩, ⟨3, .v, ⟨(some i37), none, .fieldAddr 9 (.t i36)⟩⟩, ⟨4, (.r 0), ⟨(some i38), none, .load none (.t i37)⟩⟩, ⟨5, .v, ⟨(some i39), none, .move (.t i1)⟩⟩, ⟨6, .v, ⟨(some i40), none, .nilCheck (.t i39)⟩⟩, ⟨7, .v, ⟨(some i41), none, .fieldAddr 11 (.t i40)⟩⟩, ⟨8, .v, ⟨(some i42), none, .fieldAddr 2 (.t i41)⟩⟩, ⟨9, (.r 0), ⟨(some i43), none, .load none (.t i42)⟩⟩, ⟨10, .v, ⟨(some i44), none, .move (.t i1)⟩⟩, ⟨11, .v, ⟨(some i45), none, .nilCheck (.t i44)⟩⟩, ⟨12, .v, ⟨(some i46), none, .fieldAddr 11 (.t i45)⟩⟩, ⟨13, .v, ⟨(some i47), none, .fieldAddr 0 (.t i46)⟩⟩, ⟨14, (.r 0), ⟨(some i48), none, .load none (.t i47)⟩⟩, ⟨15, .v, ⟨(some i49), none, .build [(.int .i64 (.ofNat 0)), (.int .u8 (.ofNat 0)), (.int .i64 (.ofNat 0)), (.int .i64 (.ofNat 0)), (.int .i64 (.ofNat 0)), (.int .i64 (.ofNat 0)), (.int .i64 (.ofNat 0)), (.int .i64 (.ofNat 0)), (.int .i64 (.ofNat 0)), (.int .i64 (.ofNat 0)), (.bool false), (.int .i64 (.ofNat 0)), (.int .u64 (.ofNat 0))] [(1, 1, (.c (.int .u8 (.ofNat 2)))), (3, 1, (.t i38)), (5, 1, (.t i43)), (6, 1, (.t i48))]⟩⟩, ⟨16, .e, ⟨(some i50), none, .call i93 [(.t i34), (.t i49)]⟩⟩])
  (.seq (.region [⟨(some i51), none, .move (.t i1)⟩, ⟨(some i52), none, .move (.t i1)⟩, ⟨(some i53), none, .nilCheck (.t i52)⟩, ⟨(some i54), none, .fieldAddr 11 (.t i53)⟩, ⟨(some i55), none, .fieldAddr 0 (.t i54)⟩, ⟨(some i56), none, .load none (.t i55)⟩, ⟨(some i57), none, .call i171 [(.t i51), (.t i56), (.c (.int .i64 (.ofNat 0))), (.c (.bool false))]⟩])
  (.region [⟨(some i58), none, .move (.t i1)⟩, ⟨(some i59), none, .call i79 [(.t i58), (.c (.fn i154 [] []))]⟩])))
  (.seq (.region [⟨(some i6), none, .move (.c (.bool false))⟩])
  .ret)))))))))))
  (.seq (.region [⟨(some i6), none, .move (.c (.bool true))⟩])
  .ret)))⟩
theorem tr160 : trFunc (tyIn Tryz.prog tyn) ibn Tryz.f160 = some af160 := by kernel_rfl
theorem nm160 : (Tryz.f160.name == "runtime.NumGoroutine") = false := by kernel_rfl
theorem good160 : GoodAt Tryz.prog tyn ibn i160 af160 := goodAt Tryz.func160 tr160 nm160 rfl
def af161 : AFunc := ⟨[.cell i4 (some 2)], (.seq (.region [⟨(some i4), none, .alloc [(.int .u8 (.ofNat 0)), (.int .i64 (.ofNat 0))]⟩])
  (.seq (.region [⟨(some i5), none, .move (.c (.fn i190 [] []))⟩])
  (.seq (.seq (.region [⟨(some i7), none, .move (.t i0)⟩, ⟨(some i8), none, .bin (.eq .ptr) (.t i7) (.c .nilptr)⟩])
  (.cond (.t i8) (.seq (.region [⟨(some i9), none, .move (.t i5)⟩, ⟨(some i10), none, .callv (.t i9) []⟩, ⟨none, none, .store (some 2) (.t i4) (.t i10)⟩])
  .ret)
  .skip))
  (.seq (.seq (.region [⟨(some i11), none, .move (.t i0)⟩, ⟨(some i12), none, .move (.t i1)⟩, ⟨(some i13), none, .build [.nilptr, (.bool false)] [(0, 1, (.t i11)), (1, 1, (.t i12))]⟩, ⟨(some i14), none, .call i191 [(.t i13)]⟩])
  (.block 0 (.rangeFunc (.t i14) [i15] (.region [⟨(some i6), none, .alloc [.nilfn, (.int .u8 (.ofNat 0))]⟩, ⟨none, none, .store (some 2) (.t i6) (.t i15)⟩]) (.block 1 (.seq (.region [⟨(some i16), none, .fieldAddr 0 (.t i6)⟩, ⟨(some i17), none, .load none (.t i16)⟩, ⟨(some i18), none, .callv (.t i17) []⟩])
  (.cond (.t i18) (.seq (.region [⟨(some i19), none, .fieldAddr 1 (.t i6)⟩, ⟨(some i20), none, .load none (.t i19)⟩, ⟨(some i21), none, .fieldAddr 0 (.t i4)⟩, ⟨none, none, .store none (.t i21) (.t i20)⟩])
  (.exit 0))
  .skip))))))
  (.seq (.seq (.region [⟨(some i22), none, .fieldAddr 0 (.t i4)⟩, ⟨(some i23), none, .load none (.t i22)⟩, ⟨(some i24), none, .bin (.eq .int) (.t i23) (.c (.int .u8 (.ofNat 2)))⟩])
  (.cond (.t i24) (.region [⟨(some i26), none, .move (.t i0)⟩, ⟨(some i27), none, .move (.t i1)⟩, ⟨(some i28), none, .not (.t i27)⟩, ⟨(some i29), none, .call i192 [(.t i26), (.t i28)]⟩, ⟨(some i25), none, .move (.t i29)⟩, ⟨(some i30), none, .extract 0 (.t i25)⟩, ⟨(some i31), none, .extract 1 (.t i25)⟩, ⟨(some i32), none, .fieldAddr 1 (.t i4)⟩, ⟨none, none, .store none (.t i32) (.t i30)⟩])
  .skip))
  (.seq (.region [⟨(some i33), none, .load (some 2) (.t i4)⟩, ⟨none, none, .store (some 2) (.t i4) (.t i33)⟩])
  .ret))))))⟩
theorem tr161 : trFunc (tyIn Tryz.prog tyn) ibn Tryz.f161 = some af161 := by kernel_rfl
theorem nm161 : (Tryz.f161.name == "runtime.NumGoroutine") = false := by kernel_rfl
theorem good161 : GoodAt Tryz.prog tyn ibn i161 af161 := goodAt Tryz.func161 tr161 nm161 rfl
def af162 : AFunc := ⟨[.tmp i4], (.seq (.region [⟨(some i4), none, .move (.c .nilptr)⟩])
  (.seq (.drawn [⟨0, .v, ⟨(some i5), none, .move (.t i0)⟩⟩, ⟨1, .v, ⟨(some i6), none, .nilCheck (.t i5)⟩⟩, ⟨2, .v, ⟨(some i7), none, .fieldAddr 10 (.t i6)⟩⟩, ⟨3, (.r 0), ⟨(some i8), none, .load none (.t i7)⟩⟩, ⟨4, .v, ⟨(some i9), none, .move (.t i1)⟩⟩, ⟨5, .v, ⟨(some i10), none, .nilCheck (.t i9)⟩⟩, ⟨6, .v, ⟨(some i11), none, .fieldAddr 11 (.t i10)⟩⟩, ⟨7, .v, ⟨(some i12), none, .fieldAddr 2 (.t i11)⟩⟩, ⟨8, (.r 0), ⟨(some i13), none, .load none (.t i12)⟩⟩, ⟨9, .v, ⟨(some i14), none, .indexSl 1 (.t i8) (.t i13)⟩⟩, ⟨10, (.r 0), ⟨(some i15), none, .load none (.t i14)⟩⟩, ⟨11, .v, ⟨(some i4), none, .move (.t i15)⟩⟩])
  .ret))⟩
theorem tr162 : trFunc (tyIn Tryz.prog tyn) ibn Tryz.f162 = some af162 := by kernel_rfl
theorem nm162 : (Tryz.f162.name == "runtime.NumGoroutine") = false := by kernel_rfl
theorem good162 : GoodAt Tryz.prog tyn ibn i162 af162 := goodAt Tryz.func162 tr162 nm162 rfl
def af163 : AFunc := ⟨[], (.seq (.drawn [⟨1, .v, ⟨(some i5), none, .move (.t i0)⟩⟩, ⟨2, .v, ⟨(some i6), none, .nilCheck (.t i5)⟩⟩, ⟨3, .v, ⟨(some i7), none, .fieldAddr 9 (.t i6)⟩⟩, ⟨4, (.r 0), ⟨(some i8), none, .load none (.t i7)⟩⟩, ⟨5, .v, ⟨(some i9), none, .move (.t i1)⟩⟩, ⟨6, .v, ⟨(some i10), none, .nilCheck (.t i9)⟩⟩, ⟨7, .v, ⟨(some i11), none, .fieldAddr 9 (.t i10)⟩⟩, ⟨8, (.r 0), ⟨(some i12), none, .load none (.t i11)⟩⟩, ⟨9, .e, ⟨(some i13), none, .call i193 [(.t i8), (.t i12)]⟩⟩, ⟨0, .v, ⟨(some i4), none, .move (.t i1)⟩⟩, ⟨10, .v, ⟨(some i14), none, .nilCheck (.t i4)⟩⟩, ⟨11, .v, ⟨(some i15), none, .fieldAddr 24 (.t i14)⟩⟩, ⟨12, .e, ⟨none, none, .store none (.t i15) (.t i13)⟩⟩])
  (.seq (.drawn [⟨0, .v, ⟨(some i16), none, .move (.t i0)⟩⟩, ⟨1, .v, ⟨(some i17), none, .nilCheck (.t i16)⟩⟩, ⟨2, .v, ⟨(some i18), none, .fieldAddr 13 (.t i17)⟩⟩, ⟨3, (.r 0), ⟨(some i19), none, .load none (.t i18)⟩⟩, ⟨4, .v, ⟨(some i20), none, .move (.t i1)⟩⟩, ⟨5, .v, ⟨(some i21), none, .nilCheck (.t i20)⟩⟩, ⟨6, .v, ⟨(some i22), none, .fieldAddr 9 (.t i21)⟩⟩, ⟨7, (.r 0), ⟨(some i23), none, .load none (.t i22)⟩⟩, ⟨8, .e, ⟨(some i24), none, .call i194 [(.t i19), (.t i23)]⟩⟩])
  (.seq (.region [⟨(some i25), none, .move (.t i1)⟩, ⟨(some i26), none, .nilCheck (.t i25)⟩, ⟨(some i27), none, .fieldAddr 17 (.t i26)⟩, ⟨none, none, .store none (.t i27) (.c (.int .i64 (.ofNat 0)))⟩])
  (.region [⟨(some i28), none, .move (.t i1)⟩, ⟨(some i29), none, .nilCheck (.t i28)⟩, ⟨(some i30), none, .fieldAddr 1 (.t i29)⟩, ⟨none, none, .store none (.t i30) (.c (.fn i195 [] []))⟩]))))⟩
theorem tr163 : trFunc (tyIn Tryz.prog tyn) ibn Tryz.f163 = some af163 := by kernel_rfl
theorem nm163 : (Tryz.f163.name == "runtime.NumGoroutine") = false := by kernel_rfl
theorem good163 : GoodAt Tryz.prog tyn ibn i163 af163 := goodAt Tryz.func163 tr163 nm163 rfl
def af164 : AFunc := ⟨[], (.seq (.drawn [⟨8, .v, ⟨(some i12), none, .move (.t i0)⟩⟩, ⟨9, .v, ⟨(some i13), none, .move (.t i1)⟩⟩, ⟨10, .e, ⟨(some i14), none, .call i95 [(.t i12), (.t i13)]⟩⟩, ⟨0, .v, ⟨(some i4), none, .move (.t i0)⟩⟩, ⟨1, .v, ⟨(some i5), none, .nilCheck (.t i4)⟩⟩, ⟨2, .v, ⟨(some i6), none, .fieldAddr 12 (.t i5)⟩⟩, ⟨3, (.r 1), ⟨(some i7), none, .load none (.t i6)⟩⟩, ⟨4, .v, ⟨(some i8), none, .move (.t i1)⟩⟩, ⟨5, .v, ⟨(some i9), none, .nilCheck (.t i8)⟩⟩, ⟨6, .v, ⟨(some i10), none, .fieldAddr 9 (.t i9)⟩⟩, ⟨7, (.r 1), ⟨(some i11), none, .load none (.t i10)⟩⟩, ⟨11, .v, ⟨(some i15), none, .build [(.int .u8 (.ofNat 0)), (.int .i64 (.ofNat 0)), (.int .i64 (.ofNat 0)), (.int .i64 (.ofNat 0)), (.int .i64 (.ofNat 0)), (.int .i64 (.ofNat 0)), (.int .i64 (.ofNat 0)), (.int .i64 (.ofNat 0)), (.int .i64 (.ofNat 0)), (.int .i64 (.ofNat 0)), (.int .i64 (.ofNat 0))] [(0, 1, (.c (.int .u8 (.ofNat 2)))), (1, 10, (.t i14))]⟩⟩, ⟨12, .e, ⟨(some i16), none, .call i101 [(.t i7), (.t i11), (.t i15)]⟩⟩])
  (.region [⟨(some i17), none, .move (.t i0)⟩, ⟨(some i18), none, .move (.t i1)⟩, ⟨(some i19), none, .nilCheck (.t i18)⟩, ⟨(some i20), none, .fieldAddr 9 (.t i19)⟩, ⟨(some i21), none, .load none (.t i20)⟩, ⟨(some i22), none, .build [(.int .i64 (.ofNat 0)), (.int .u8 (.ofNat 0)), (.int .i64 (.ofNat 0)), (.int .i64 (.ofNat 0)), (.int .i64 (.ofNat 0)), (.int .i64 (.ofNat 0)), (.int .i64 (.ofNat 0)), (.int .i64 (.ofNat 0)), (.int .i64 (.ofNat 0)), (.int .i64 (.ofNat 0)), (.bool false), (.int .i64 (.ofNat 0)), (.int .u64 (.ofNat 0))] [(1, 1, (.c (.int .u8 (.ofNat 8)))), (3, 1, (.t i21))]⟩, ⟨(some i23), none, .call i93 [(.t i17), (.t i22)]⟩]))⟩
theorem tr164 : trFunc (tyIn Tryz.prog tyn) ibn Tryz.f164 = some af164 := by kernel_rfl
theorem nm164 : (Tryz.f164.name == "runtime.NumGoroutine") = false := by kernel_rfl
theorem good164 : GoodAt Tryz.prog tyn ibn i164 af164 := goodAt Tryz.func164 tr164 nm164 rfl
def af165 : AFunc := ⟨[], (.region [⟨(some i4), none, .move (.t i1)⟩, ⟨(some i5), none, .buildSlice [(.int .i64 (.ofNat 0))] 1 [(0, 1, (.c (.int .i64 (.ofNat 0))))]⟩, ⟨(some i6), none, .call i64 [(.t i4), (.c (.fn i196 [] [])), (.t i5)]⟩])⟩
theorem tr165 : trFunc (tyIn Tryz.prog tyn) ibn Tryz.f165 = some af165 := by kernel_rfl
theorem nm165 : (Tryz.f165.name == "runtime.NumGoroutine") = false := by kernel_rfl
theorem good165 : GoodAt Tryz.prog tyn ibn i165 af165 := goodAt Tryz.func165 tr165 nm165 rfl
def af166 : AFunc := ⟨[.tmp i2], (.seq (.region [⟨(some i2), none, .move (.c (.bool false))⟩])
  (.seq (.region [⟨(some i3), none, .move (.t i0)⟩, ⟨(some i4), none, .bin (.ne .ptr) (.t i3) (.c .nilptr)⟩, ⟨(some i5), none, .move (.t i4)⟩, ⟨(some i6), (some (i5, true)), .move (.t i0)⟩, ⟨(some i7), (some (i5, true)), .nilCheck (.t i6)⟩, ⟨(some i8), (some (i5, true)), .fieldAddr 3 (.t i7)⟩, ⟨(some i9), (some (i5, true)), .load none (.t i8)⟩, ⟨(some i10), none, .pick (.t i5) (.t i9) (.c (.bool false))⟩, ⟨(some i2), none, .move (.t i10)⟩])
  .ret))⟩
theorem tr166 : trFunc (tyIn Tryz.prog tyn) ibn Tryz.f166 = some af166 := by kernel_rfl
theorem nm166 : (Tryz.f166.name == "runtime.NumGoroutine") = false := by kernel_rfl
theorem good166 : GoodAt Tryz.prog tyn ibn i166 af166 := goodAt Tryz.func166 tr166 nm166 rfl
def af167 : AFunc := ⟨[], (.seq (.region [⟨(some i4), none, .move (.t i0)⟩, ⟨(some i5), none, .move (.t i1)⟩, ⟨(some i6), none, .call i162 [(.t i4), (.t i5)]⟩, ⟨(some i7), none, .call i197 [(.t i6)]⟩])
  (.seq (.drawn [⟨0, .v, ⟨(some i8), none, .move (.t i0)⟩⟩, ⟨1, .v, ⟨(some i9), none, .move (.t i1)⟩⟩, ⟨2, .v, ⟨(some i10), none, .nilCheck (.t i9)⟩⟩, ⟨3, .v, ⟨(some i11), none, .fieldAddr 9 (.t i10)⟩⟩, ⟨4, (.r 0), ⟨(some i12), none, .load none (.t i11)⟩⟩, ⟨5, .v, ⟨(some i13), none, .move (.t i1)⟩⟩, ⟨6, .v, ⟨(some i14), none, .nilCheck (.t i13)⟩⟩, ⟨7, .v, ⟨(some i15), none, .fieldAddr 11 (.t i14)⟩⟩, ⟨8, .v, ⟨(some i16), none, .fieldAddr 2 (.t i15)⟩⟩, ⟨9, (.r 0), ⟨(some i17), none, .load none (.t i16)⟩⟩, ⟨10, .v, ⟨(some i18), none, .build [(.int .i64 (.ofNat 0)), (.int .u8 (.ofNat 0)), (.int .i64 (.ofNat 0)), (.int .i64 (.ofNat 0)), (.int .i64 (.ofNat 0)), (.int .i64 (.ofNat 0)), (.int .i64 (.ofNat 0)), (.int .i64 (.ofNat 0)), (.int .i64 (.ofNat 0)), (.int .i64 (.ofNat 0)), (.bool false), (.int .i64 (.ofNat 0)), (.int .u64 (.ofNat 0))] [(1, 1, (.c (.int .u8 (.ofNat 5)))), (3, 1, (.t i12)), (5, 1, (.t i17))]⟩⟩, ⟨11, .e, ⟨(some i19), none, .call i93 [(.t i8), (.t i18)]⟩⟩])
  (.seq (.region [⟨(some i20), none, .move (.t i1)⟩, ⟨(some i21), none, .call i171 [(.t i20), (.c (.int .i64 (.negSucc 0))), (.c (.int .i64 (.ofNat 0))), (.c (.bool false))]⟩])
  (.region [⟨(some i22), none, .move (.t i1)⟩, ⟨(some i23), none, .move (.t i1)⟩, ⟨(some i24), none, .nilCheck (.t i22)⟩, ⟨(some i25), none, .fieldAddr 1 (.t i24)⟩, ⟨none, none, .store none (.t i25) (.c (.fn i198 [] []))⟩, ⟨(some i26), none, .nilCheck (.t i23)⟩, ⟨(some i27), none, .fieldAddr 25 (.t i26)⟩, ⟨none, none, .store none (.t i27) (.c (.fn i198 [] []))⟩]))))⟩
theorem tr167 : trFunc (tyIn Tryz.prog tyn) ibn Tryz.f167 = some af167 := by kernel_rfl
theorem nm167 : (Tryz.f167.name == "runtime.NumGoroutine") = false := by kernel_rfl
theorem good167 : GoodAt Tryz.prog tyn ibn i167 af167 := goodAt Tryz.func167 tr167 nm167 rfl
def af168 : AFunc := ⟨[], (.seq (.seq (.drawn [⟨0, .v, ⟨(some i4), none, .move (.t i0)⟩⟩, ⟨1, .v, ⟨(some i5), none, .nilCheck (.t i4)⟩⟩, ⟨2, .v, ⟨(some i6), none, .fieldAddr 1 (.t i5)⟩⟩, ⟨3, .v, ⟨(some i7), none, .fieldAddr 2 (.t i6)⟩⟩, ⟨4, (.r 0), ⟨(some i8), none, .load none (.t i7)⟩⟩, ⟨5, .v, ⟨(some i9), none, .move (.t i1)⟩⟩, ⟨6, .v, ⟨(some i10), none, .nilCheck (.t i9)⟩⟩, ⟨7, .v, ⟨(some i11), none, .fieldAddr 15 (.t i10)⟩⟩, ⟨8, (.r 0), ⟨(some i12), none, .load none (.t i11)⟩⟩, ⟨9, .v, ⟨(some i13), none, .indexSl 2 (.t i8) (.t i12)⟩⟩, ⟨10, .v, ⟨(some i14), none, .fieldAddr 1 (.t i13)⟩⟩, ⟨11, (.r 0), ⟨(some i15), none, .load none (.t i14)⟩⟩, ⟨12, .v, ⟨(some i16), none, .not (.t i15)⟩⟩])
  (.cond (.t i16) (.seq (.region [⟨(some i17), none, .move (.t i0)⟩, ⟨(some i18), none, .move (.t i1)⟩, ⟨(some i19), none, .call i127 [(.t i17), (.t i18)]⟩])
  .ret)
  .skip))
  (.seq (.region [⟨(some i20), none, .move (.t i0)⟩, ⟨(some i21), none, .move (.t i1)⟩, ⟨(some i22), none, .call i199 [(.t i20), (.t i21)]⟩])
  (.region [⟨(some i23), none, .move (.t i1)⟩, ⟨(some i24), none, .nilCheck (.t i23)⟩, ⟨(some i25), none, .fieldAddr 1 (.t i24)⟩, ⟨none, none, .store none (.t i25) (.c (.fn i150 [] []))⟩])))⟩
theorem tr168 : trFunc (tyIn Tryz.prog tyn) ibn Tryz.f168 = some af168 := by kernel_rfl
theorem nm168 : (Tryz.f168.name == "runtime.NumGoroutine") = false := by kernel_rfl
theorem good168 : GoodAt Tryz.prog tyn ibn i168 af168 := goodAt Tryz.func168 tr168 nm168 rfl
def af169 : AFunc := ⟨[], (.seq (.region [⟨(some i6), none, .move (.t i1)⟩, ⟨(some i7), none, .nilCheck (.t i6)⟩, ⟨(some i8), none, .fieldAddr 25 (.t i7)⟩, ⟨none, none, .store none (.t i8) (.c (.fn i169 [] []))⟩])
  (.seq (.drawn [⟨0, .v, ⟨(some i9), none, .move (.t i0)⟩⟩, ⟨1, .v, ⟨(some i10), none, .nilCheck (.t i9)⟩⟩, ⟨2, .v, ⟨(some i11), none, .fieldAddr 1 (.t i10)⟩⟩, ⟨3, .v, ⟨(some i12), none, .fieldAddr 2 (.t i11)⟩⟩, ⟨4, (.r 0), ⟨(some i13), none, .load none (.t i12)⟩⟩, ⟨5, .v, ⟨(some i14), none, .move (.t i1)⟩⟩, ⟨6, .v, ⟨(some i15), none, .nilCheck (.t i14)⟩⟩, ⟨7, .v, ⟨(some i16), none, .fieldAddr 15 (.t i15)⟩⟩, ⟨8, (.r 0), ⟨(some i17), none, .load none (.t i16)⟩⟩, ⟨9, .v, ⟨(some i18), none, .indexSl 2 (.t i13) (.t i17)⟩⟩, ⟨10, .v, ⟨(some i19), none, .fieldAddr 0 (.t i18)⟩⟩, ⟨11, (.r 0), ⟨(some i20), none, .load none (.t i19)⟩⟩, ⟨12, .v, ⟨(some i21), none, .lenSl (.t i20)⟩⟩, ⟨13, .v, ⟨(some i4), none, .move (.t i21)⟩⟩])
  (.seq (.seq (.region [⟨(some i22), none, .move (.t i0)⟩, ⟨(some i23), none, .move (.t i1)⟩, ⟨(some i24), none, .move (.t i1)⟩, ⟨(some i25), none, .nilCheck (.t i24)⟩, ⟨(some i26), none, .fieldAddr 17 (.t i25)⟩, ⟨(some i27), none, .load none (.t i26)⟩, ⟨(some i28), none, .call i200 [(.t i22), (.t i23), (.t i27)]⟩])
  (.seq (.region [⟨(some i29), none, .move (.t i1)⟩, ⟨(some i30), none, .nilCheck (.t i29)⟩, ⟨(some i31), none, .fieldAddr 11 (.t i30)⟩, ⟨(some i32), none, .fieldAddr 2 (.t i31)⟩, ⟨(some i33), none, .load none (.t i32)⟩, ⟨(some i34), none, .bin (.ne .int) (.t i33) (.c (.int .i64 (.negSucc 0)))⟩])
  (.cond (.t i34) (.seq (.drawn [⟨0, .v, ⟨(some i35), none, .move (.t i0)⟩⟩, ⟨1, .v, ⟨(some i36), none, .move (.t i1)⟩⟩, ⟨2, .e, ⟨(some i37), none, .call i162 [(.t i35), (.t i36)]⟩⟩, ⟨3, .v, ⟨(some i38), none, .move (.t i1)⟩⟩, ⟨4, .v, ⟨(some i39), none, .nilCheck (.t i38)⟩⟩, ⟨5, .v, ⟨(some i40), none, .fieldAddr 11 (.t i39)⟩⟩, ⟨6, .v, ⟨(some i41), none, .fieldAddr 1 (.t i40)⟩⟩, ⟨7, (.r 1), ⟨(some i42), none, .load none (.t i41)⟩⟩, ⟨8, .e, ⟨(some i43), none, .call i161 [(.t i37), (.t i42)]⟩⟩, ⟨9, .a, ⟨(some i5), none, .alloc [(.int .u8 (.ofNat 0)), (.int .i64 (.ofNat 0))]⟩⟩, ⟨10, .e, ⟨none, none, .store (some 2) (.t i5) (.t i43)⟩⟩])
  (.seq (.seq (.region [⟨(some i44), none, .fieldAddr 0 (.t i5)⟩, ⟨(some i45), none, .load none (.t i44)⟩, ⟨(some i46), none, .bin (.eq .int) (.t i45) (.c (.int .u8 (.ofNat 2)))⟩])
  (.cond (.t i46) (.seq (.region [⟨(some i47), none, .move (.t i1)⟩, ⟨(some i48), none, .fieldAddr 1 (.t i5)⟩, ⟨(some i49), none, .load none (.t i48)⟩, ⟨(some i50), none, .nilCheck (.t i47)⟩, ⟨(some i51), none, .fieldAddr 18 (.t i50)⟩, ⟨none, none, .store none (.t i51) (.t i49)⟩])
  (.seq (.drawn [⟨1, .v, ⟨(some i54), none, .move (.t i0)⟩⟩, ⟨2, .v, ⟨(some i55), none, .nilCheck (.t i54)⟩⟩, ⟨3, .v, ⟨(some i56), none, .fieldAddr 11 (.t i55)⟩⟩, ⟨4, (.r 0), ⟨(some i57), none, .load none (.t i56)⟩⟩, ⟨5, .v, ⟨(some i58), none, .fieldAddr 1 (.t i5)⟩⟩, ⟨6, (.r 0), ⟨(some i59), none, .load none (.t i58)⟩⟩, ⟨7, .e, ⟨(some i60), none, .call i151 [(.t i57), (.t i59)]⟩⟩, ⟨0, .v, ⟨(some i53), none, .move (.t i1)⟩⟩, ⟨8, .v, ⟨(some i52), none, .move (.t i60)⟩⟩, ⟨9, .v, ⟨(some i61), none, .extract 0 (.t i52)⟩⟩, ⟨11, .v, ⟨(some i63), none, .nilCheck (.t i53)⟩⟩, ⟨12, .v, ⟨(some i64), none, .fieldAddr 19 (.t i63)⟩⟩, ⟨13, .e, ⟨none, none, .store (some 5) (.t i64) (.t i61)⟩⟩, ⟨10, .v, ⟨(some i62), none, .extract 1 (.t i52)⟩⟩])
  (.seq (.drawn [⟨0, .v, ⟨(some i65), none, .move (.t i0)⟩⟩, ⟨1, .v, ⟨(some i66), none, .nilCheck (.t i65)⟩⟩, ⟨2, .v, ⟨(some i67), none, .fieldAddr 9 (.t i66)⟩⟩, ⟨3, (.r 0), ⟨(some i68), none, .load none (.t i67)⟩⟩, ⟨4, .v, ⟨(some i69), none, .move (.t i1)⟩⟩, ⟨5, .v, ⟨(some i70), none, .nilCheck (.t i69)⟩⟩, ⟨6, .v, ⟨(some i71), none, .fieldAddr 19 (.t i70)⟩⟩, ⟨7, .v, ⟨(some i72), none, .fieldAddr 0 (.t i71)⟩⟩, ⟨8, (.r 0), ⟨(some i73), none, .load none (.t i72)⟩⟩, ⟨9, .e, ⟨(some i74), none, .call i201 [(.t i68), (.t i73)]⟩⟩, ⟨10, .v, ⟨(some i75), none, .move (.t i1)⟩⟩, ⟨11, .v, ⟨(some i76), none, .nilCheck (.t i75)⟩⟩, ⟨12, .v, ⟨(some i77), none, .fieldAddr 19 (.t i76)⟩⟩, ⟨13, .v, ⟨(some i78), none, .fieldAddr 4 (.t i77)⟩⟩, ⟨14, (.r 1), ⟨(some i79), none, .load none (.t i78)⟩⟩, ⟨15, .v, ⟨(some i80), none, .bin (.ne .int) (.t i74) (.t i79)⟩⟩])
  (.cond (.t i80) (.seq (.region [⟨(some i81), none, .move (.t i1)⟩, ⟨(some i82), none, .nilCheck (.t i81)⟩, ⟨(some i83), none, .fieldAddr 1 (.t i82)⟩, ⟨none, none, .store none (.t i83) (.c (.fn i202 [] []))⟩])
  .ret)
  .skip))))
  .skip))
  (.seq (.region [⟨(some i84), none, .fieldAddr 0 (.t i5)⟩, ⟨(some i85), none, .load none (.t i84)⟩, ⟨(some i86), none, .bin (.ne .int) (.t i85) (.c (.int .u8 (.ofNat 5)))⟩])
  (.cond (.t i86) (.drawn [⟨1, .v, ⟨(some i88), none, .move (.t i1)⟩⟩, ⟨2, .v, ⟨(some i89), none, .nilCheck (.t i88)⟩⟩, ⟨3, .v, ⟨(some i90), none, .fieldAddr 16 (.t i89)⟩⟩, ⟨4, (.r 0), ⟨(some i91), none, .load none (.t i90)⟩⟩, ⟨5, .v, ⟨(some i92), none, .move (.t i1)⟩⟩, ⟨6, .v, ⟨(some i93), none, .nilCheck (.t i92)⟩⟩, ⟨7, .v, ⟨(some i94), none, .fieldAddr 17 (.t i93)⟩⟩, ⟨8, (.r 0), ⟨(some i95), none, .load none (.t i94)⟩⟩, ⟨9, .e, ⟨(some i96), none, .call i203 [(.t i91), (.t i95)]⟩⟩, ⟨0, .v, ⟨(some i87), none, .move (.t i1)⟩⟩, ⟨10, .v, ⟨(some i97), none, .nilCheck (.t i87)⟩⟩, ⟨11, .v, ⟨(some i98), none, .fieldAddr 16 (.t i97)⟩⟩, ⟨12, .e, ⟨none, none, .store none (.t i98) (.t i96)⟩⟩])
  .skip))))
  .skip)))
  (.seq (.seq (.region [⟨(some i99), none, .move (.t i1)⟩, ⟨(some i100), none, .nilCheck (.t i99)⟩, ⟨(some i101), none, .fieldAddr 17 (.t i100)⟩, ⟨(some i102), none, .load none (.t i101)⟩, ⟨(some i103), none, .bin .add (.t i102) (.c (.int .i64 (.ofNat 1)))⟩, ⟨(some i104), none, .nilCheck (.t i99)⟩, ⟨(some i105), none, .fieldAddr 17 (.t i104)⟩, ⟨none, none, .store none (.t i105) (.t i103)⟩])
  (.seq (.region [⟨(some i106), none, .move (.t i1)⟩, ⟨(some i107), none, .nilCheck (.t i106)⟩, ⟨(some i108), none, .fieldAddr 17 (.t i107)⟩, ⟨(some i109), none, .load none (.t i108)⟩, ⟨(some i110), none, .move (.t i4)⟩, ⟨(some i111), none, .bin (.eq .int) (.t i109) (.t i110)⟩])
  (.cond (.t i111) (.seq (.drawn [⟨0, .v, ⟨(some i112), none, .move (.t i0)⟩⟩, ⟨1, .v, ⟨(some i113), none, .move (.t i1)⟩⟩, ⟨2, .v, ⟨(some i114), none, .nilCheck (.t i113)⟩⟩, ⟨3, .v, ⟨(some i115), none, .fieldAddr 0 (.t i114)⟩⟩, ⟨4, (.r 0), ⟨(some i116), none, .load none (.t i115)⟩⟩, ⟨5, .v, ⟨(some i117), none, .move (.t i1)⟩⟩, ⟨6, .v, ⟨(some i118), none, .nilCheck (.t i117)⟩⟩, ⟨7, .v, ⟨(some i119), none, .fieldAddr 9 (.t i118)⟩⟩, ⟨8, (.r 0), ⟨(some i120), none, .load none (.t i119)⟩⟩, ⟨9, .v, ⟨(some i121), none, .move (.t i1)⟩⟩, ⟨10, .v, ⟨(some i122), none, .nilCheck (.t i121)⟩⟩, ⟨11, .v, ⟨(some i123), none, .fieldAddr 16 (.t i122)⟩⟩, ⟨12, (.r 0), ⟨(some i124), none, .load none (.t i123)⟩⟩, ⟨13, .v, ⟨(some i125), none, .build [(.int .i64 (.ofNat 0)), (.int .u8 (.ofNat 0)), (.int .i64 (.ofNat 0)), (.int .i64 (.ofNat 0)), (.int .i64 (.ofNat 0)), (.int .i64 (.ofNat 0)), (.int .i64 (.ofNat 0)), (.int .i64 (.ofNat 0)), (.int .i64 (.ofNat 0)), (.int .i64 (.ofNat 0)), (.bool false), (.int .i64 (.ofNat 0)), (.int .u64 (.ofNat 0))] [(1, 1, (.c (.int .u8 (.ofNat 25)))), (2, 1, (.t i116)), (3, 1, (.t i120)), (12, 1, (.t i124))]⟩⟩, ⟨14, .e, ⟨(some i126), none, .call i93 [(.t i112), (.t i125)]⟩⟩])
  (.seq (.region [⟨(some i127), none, .move (.t i1)⟩, ⟨(some i128), none, .nilCheck (.t i127)⟩, ⟨(some i129), none, .fieldAddr 1 (.t i128)⟩, ⟨none, none, .store none (.t i129) (.c (.fn i204 [] []))⟩])
  .ret))
  .skip)))
  (.region [⟨(some i130), none, .move (.t i1)⟩, ⟨(some i131), none, .nilCheck (.t i130)⟩, ⟨(some i132), none, .fieldAddr 1 (.t i131)⟩, ⟨none, none, .store none (.t i132) (.c (.fn i169 [] []))⟩])))))⟩
theorem tr169 : trFunc (tyIn Tryz.prog tyn) ibn Tryz.f169 = some af169 := by kernel_rfl
theorem nm169 : (Tryz.f169.name == "runtime.NumGoroutine") = false := by kernel_rfl
theorem good169 : GoodAt Tryz.prog tyn ibn i169 af169 := goodAt Tryz.func169 tr169 nm169 rfl
def af170 : AFunc := ⟨[.cell i4 (some 10)], (.seq (.region [⟨(some i2), none, .box (.t i0)⟩, ⟨(some i4), none, .alloc [(.int .i64 (.ofNat 0)), (.int .i64 (.ofNat 0)), (.int .i64 (.ofNat 0)), (.int .i64 (.ofNat 0)), (.int .i64 (.ofNat 0)), (.int .i64 (.ofNat 0)), (.int .i64 (.ofNat 0)), (.int .i64 (.ofNat 0)), (.int .i64 (.ofNat 0)), (.int .i64 (.ofNat 0))]⟩])
  (.seq (.region [⟨(some i5), none, .move (.t i1)⟩, ⟨(some i6), none, .fieldAddr 2 (.t i2)⟩, ⟨(some i7), none, .load (some 8) (.t i6)⟩, ⟨(some i8), none, .build [(.int .i64 (.ofNat 0)), (.int .i64 (.ofNat 0)), (.int .i64 (.ofNat 0)), (.int .i64 (.ofNat 0)), (.int .i64 (.ofNat 0)), (.int .i64 (.ofNat 0)), (.int .i64 (.ofNat 0)), (.int .i64 (.ofNat 0)), (.int .i64 (.ofNat 0)), (.int .i64 (.ofNat 0))] [(0, 1, (.t i5)), (2, 8, (.t i7))]⟩, ⟨none, none, .store (some 10) (.t i4) (.t i8)⟩])
  .ret))⟩
theorem tr170 : trFunc (tyIn Tryz.prog tyn) ibn Tryz.f170 = some af170 := by kernel_rfl
theorem nm170 : (Tryz.f170.name == "runtime.NumGoroutine") = false := by kernel_rfl
theorem good170 : GoodAt Tryz.prog tyn ibn i170 af170 := goodAt Tryz.func170 tr170 nm170 rfl
def af171 : AFunc := ⟨[], (.region [⟨(some i8), none, .move (.t i0)⟩, ⟨(some i9), none, .move (.t i1)⟩, ⟨(some i10), none, .move (.t i2)⟩, ⟨(some i11), none, .move (.t i3)⟩, ⟨(some i12), none, .build [(.int .i64 (.ofNat 0)), (.int .i64 (.ofNat 0)), (.bool false), (.int .i64 (.ofNat 0))] [(0, 1, (.t i9)), (1, 1, (.t i10)), (2, 1, (.t i11))]⟩, ⟨(some i13), none, .nilCheck (.t i8)⟩, ⟨(some i14), none, .fieldAddr 28 (.t i13)⟩, ⟨none, none, .store (some 4) (.t i14) (.t i12)⟩])⟩
theorem tr171 : trFunc (tyIn Tryz.prog tyn) ibn Tryz.f171 = some af171 := by kernel_rfl
theorem nm171 : (Tryz.f171.name == "runtime.NumGoroutine") = false := by kernel_rfl
theorem good171 : GoodAt Tryz.prog tyn ibn i171 af171 := goodAt Tryz.func171 tr171 nm171 rfl
def af172 : AFunc := ⟨[], (.region [⟨(some i4), none, .move (.t i0)⟩, ⟨(some i5), none, .move (.t i1)⟩, ⟨(some i6), none, .nilCheck (.t i5)⟩, ⟨(some i7), none, .fieldAddr 0 (.t i6)⟩, ⟨(some i8), none, .load none (.t i7)⟩, ⟨(some i9), none, .build [(.int .i64 (.ofNat 0)), (.int .u8 (.ofNat 0)), (.int .i64 (.ofNat 0)), (.int .i64 (.ofNat 0)), (.int .i64 (.ofNat 0)), (.int .i64 (.ofNat 0)), (.int .i64 (.ofNat 0)), (.int .i64 (.ofNat 0)), (.int .i64 (.ofNat 0)), (.int .i64 (.ofNat 0)), (.bool false), (.int .i64 (.ofNat 0)), (.int .u64 (.ofNat 0))] [(1, 1, (.c (.int .u8 (.ofNat 26)))), (2, 1, (.t i8))]⟩, ⟨(some i10), none, .call i93 [(.t i4), (.t i9)]⟩])⟩
theorem tr172 : trFunc (tyIn Tryz.prog tyn) ibn Tryz.f172 = some af172 := by kernel_rfl
theorem nm172 : (Tryz.f172.name == "runtime.NumGoroutine") = false := by kernel_rfl
theorem good172 : GoodAt Tryz.prog tyn ibn i172 af172 := goodAt Tryz.func172 tr172 nm172 rfl
def af174 : AFunc := ⟨[.tmp i4], (.seq (.region [⟨(some i4), none, .move (.c (.bool false))⟩])
  (.seq (.region [⟨(some i5), none, .move (.t i0)⟩, ⟨(some i6), none, .bin (.ne .ptr) (.t i5) (.c .nilptr)⟩, ⟨(some i7), none, .move (.t i6)⟩, ⟨(some i8), (some (i7, true)), .move (.t i1)⟩, ⟨(some i9), (some (i7, true)), .bin .geq (.t i8) (.c (.int .i64 (.ofNat 0)))⟩, ⟨(some i10), none, .pick (.t i7) (.t i9) (.c (.bool false))⟩, ⟨(some i11), none, .move (.t i10)⟩, ⟨(some i12), (some (i11, true)), .move (.t i1)⟩, ⟨(some i13), (some (i11, true)), .move (.t i0)⟩, ⟨(some i14), (some (i11, true)), .nilCheck (.t i13)⟩, ⟨(some i15), (some (i11, true)), .fieldAddr 0 (.t i14)⟩, ⟨(some i16), (some (i11, true)), .load none (.t i15)⟩, ⟨(some i17), (some (i11, true)), .lenSl (.t i16)⟩, ⟨(some i18), (some (i11, true)), .bin .lss (.t i12) (.t i17)⟩, ⟨(some i19), none, .pick (.t i11) (.t i18) (.c (.bool false))⟩, ⟨(some i4), none, .move (.t i19)⟩])
  .ret))⟩
theorem tr174 : trFunc (tyIn Tryz.prog tyn) ibn Tryz.f174 = some af174 := by kernel_rfl
theorem nm174 : (Tryz.f174.name == "runtime.NumGoroutine") = false := by kernel_rfl
theorem good174 : GoodAt Tryz.prog tyn ibn i174 af174 := goodAt Tryz.func174 tr174 nm174 rfl
def af175 : AFunc := ⟨[.tmp i0], (.seq (.region [⟨(some i0), none, .move (.c .nilmap)⟩])
  (.seq (.region [⟨(some i2), none, .buildSlice [(.str []), (.str [])] 2 [(0, 1, (.c (.str [119, 111, 114, 107, 101, 114]))), (1, 1, (.c (.str [116, 97, 115, 107])))]⟩, ⟨(some i1), none, .move (.t i2)⟩])
  (.seq (.drawn [⟨0, .a, ⟨(some i3), none, .mkmap .int⟩⟩, ⟨1, .a, ⟨(some i4), none, .buildSlice [(.str []), (.str []), (.str []), (.str [])] 4 [(0, 1, (.c (.str [116, 97, 115, 107]))), (1, 1, (.c (.str [99, 104]))), (2, 1, (.c (.str [99, 97, 115, 101]))), (3, 1, (.c (.str [118, 97, 108])))]⟩⟩, ⟨2, .v, ⟨(some i5), none, .build [(.str []), .nilslice] [(0, 1, (.c (.str [115, 101, 110, 100]))), (1, 1, (.t i4))]⟩⟩, ⟨3, .i, ⟨none, none, .insert .int (.t i3) (.c (.int .u8 (.ofNat 1))) (.t i5)⟩⟩, ⟨4, .a, ⟨(some i6), none, .buildSlice [(.str []), (.str []), (.str []), (.str []), (.str [])] 5 [(0, 1, (.c (.str [116, 97, 115, 107]))), (1, 1, (.c (.str [99, 104]))), (2, 1, (.c (.str [99, 97, 115, 101]))), (3, 1, (.c (.str [118, 97, 108]))), (4, 1, (.c (.str [111, 107])))]⟩⟩, ⟨5, .v, ⟨(some i7), none, .build [(.str []), .nilslice] [(0, 1, (.c (.str [114, 101, 99, 118]))), (1, 1, (.t i6))]⟩⟩, ⟨6, .i, ⟨none, none, .insert .int (.t i3) (.c (.int .u8 (.ofNat 2))) (.t i7)⟩⟩, ⟨7, .a, ⟨(some i8), none, .buildSlice [(.str []), (.str []), (.str []), (.str []), (.str []), (.str []), (.str [])] 7 [(0, 1, (.c (.str [116, 97, 115, 107]))), (1, 1, (.c (.str [112, 101, 101, 114]))), (2, 1, (.c (.str [99, 104]))), (3, 1, (.c (.str [99, 97, 115, 101]))), (4, 1, (.c (.str [112, 101, 101, 114, 99, 97, 115, 101]))), (5, 1, (.c (.str [118, 97, 108]))), (6, 1, (.c (.str [111, 107])))]⟩⟩, ⟨8, .v, ⟨(some i9), none, .build [(.str []), .nilslice] [(0, 1, (.c (.str [109, 101, 101, 116]))), (1, 1, (.t i8))]⟩⟩, ⟨9, .i, ⟨none, none, .insert .int (.t i3) (.c (.int .u8 (.ofNat 3))) (.t i9)⟩⟩, ⟨10, .a, ⟨(some i10), none, .buildSlice [(.str []), (.str []), (.str []), (.str []), (.str []), (.str []), (.str [])] 7 [(0, 1, (.c (.str [116, 97, 115, 107]))), (1, 1, (.c (.str [112, 101, 101, 114]))), (2, 1, (.c (.str [99, 104]))), (3, 1, (.c (.str [99, 97, 115, 101]))), (4, 1, (.c (.str [112, 101, 101, 114, 99, 97, 115, 101]))), (5, 1, (.c (.str [118, 97, 108]))), (6, 1, (.c (.str [118, 97, 108, 50])))]⟩⟩, ⟨11, .v, ⟨(some i11), none, .build [(.str []), .nilslice] [(0, 1, (.c (.str [114, 101, 102, 105, 108, 108]))), (1, 1, (.t i10))]⟩⟩, ⟨12, .i, ⟨none, none, .insert .int (.t i3) (.c (.int .u8 (.ofNat 4))) (.t i11)⟩⟩, ⟨13, .a, ⟨(some i12), none, .buildSlice [(.str []), (.str [])] 2 [(0, 1, (.c (.str [116, 97, 115, 107]))), (1, 1, (.c (.str [99, 104])))]⟩⟩, ⟨14, .v, ⟨(some i13), none, .build [(.str []), .nilslice] [(0, 1, (.c (.str [99, 108, 111, 115, 101]))), (1, 1, (.t i12))]⟩⟩, ⟨15, .i, ⟨none, none, .insert .int (.t i3) (.c (.int .u8 (.ofNat 5))) (.t i13)⟩⟩, ⟨16, .a, ⟨(some i14), none, .buildSlice [(.str []), (.str []), (.str []), (.str [])] 4 [(0, 1, (.c (.str [116, 97, 115, 107]))), (1, 1, (.c (.str [112, 101, 101, 114]))), (2, 1, (.c (.str [99, 104]))), (3, 1, (.c (.str [99, 97, 115, 101])))]⟩⟩, ⟨17, .v, ⟨(some i15), none, .build [(.str []), .nilslice] [(0, 1, (.c (.str [119, 97, 107, 101]))), (1, 1, (.t i14))]⟩⟩, ⟨18, .i, ⟨none, none, .insert .int (.t i3) (.c (.int .u8 (.ofNat 6))) (.t i15)⟩⟩, ⟨19, .v, ⟨(some i16), none, .move (.t i1)⟩⟩, ⟨20, .v, ⟨(some i17), none, .sliceSl 1 (.t i16) (some (.c (.int .i64 (.ofNat 1)))) none none⟩⟩, ⟨21, .v, ⟨(some i18), none, .build [(.str []), .nilslice] [(0, 1, (.c (.str [100, 101, 102, 97, 117, 108, 116]))), (1, 1, (.t i17))]⟩⟩, ⟨22, .i, ⟨none, none, .insert .int (.t i3) (.c (.int .u8 (.ofNat 7))) (.t i18)⟩⟩, ⟨23, .v, ⟨(some i19), none, .move (.t i1)⟩⟩, ⟨24, .v, ⟨(some i20), none, .sliceSl 1 (.t i19) (some (.c (.int .i64 (.ofNat 1)))) none none⟩⟩, ⟨25, .v, ⟨(some i21), none, .build [(.str []), .nilslice] [(0, 1, (.c (.str [98, 108, 111, 99, 107]))), (1, 1, (.t i20))]⟩⟩, ⟨26, .i, ⟨none, none, .insert .int (.t i3) (.c (.int .u8 (.ofNat 8))) (.t i21)⟩⟩, ⟨27, .a, ⟨(some i22), none, .buildSlice [(.str []), (.str []), (.str [])] 3 [(0, 1, (.c (.str [116, 97, 115, 107]))), (1, 1, (.c (.str [112, 101, 101, 114]))), (2, 1, (.c (.str [99, 97, 115, 101])))]⟩⟩, ⟨28, .v, ⟨(some i23), none, .build [(.str []), .nilslice] [(0, 1, (.c (.str [115, 112, 97, 119, 110]))), (1, 1, (.t i22))]⟩⟩, ⟨29, .i, ⟨none, none, .insert .int (.t i3) (.c (.int .u8 (.ofNat 9))) (.t i23)⟩⟩, ⟨30, .v, ⟨(some i24), none, .move (.t i1)⟩⟩, ⟨31, .v, ⟨(some i25), none, .sliceSl 1 (.t i24) (some (.c (.int .i64 (.ofNat 1)))) none none⟩⟩, ⟨32, .v, ⟨(some i26), none, .build [(.str []), .nilslice] [(0, 1, (.c (.str [101, 110, 100]))), (1, 1, (.t i25))]⟩⟩, ⟨33, .i, ⟨none, none, .insert .int (.t i3) (.c (.int .u8 (.ofNat 10))) (.t i26)⟩⟩, ⟨34, .a, ⟨(some i27), none, .buildSlice [(.str []), (.str []), (.str [])] 3 [(0, 1, (.c (.str [116, 97, 115, 107]))), (1, 1, (.c (.str [112, 101, 101, 114]))), (2, 1, (.c (.str [99, 111, 100, 101])))]⟩⟩, ⟨35, .v, ⟨(some i28), none, .build [(.str []), .nilslice] [(0, 1, (.c (.str [102, 97, 117, 108, 116]))), (1, 1, (.t i27))]⟩⟩, ⟨36, .i, ⟨none, none, .insert .int (.t i3) (.c (.int .u8 (.ofNat 11))) (.t i28)⟩⟩, ⟨37, .v, ⟨(some i29), none, .move (.t i1)⟩⟩, ⟨38, .v, ⟨(some i30), none, .build [(.str []), .nilslice] [(0, 1, (.c (.str [100, 105, 115, 112, 97, 116, 99, 104]))), (1, 1, (.t i29))]⟩⟩, ⟨39, .i, ⟨none, none, .insert .int (.t i3) (.c (.int .u8 (.ofNat 21))) (.t i30)⟩⟩, ⟨40, .v, ⟨(some i31), none, .move (.t i1)⟩⟩, ⟨41, .v, ⟨(some i32), none, .build [(.str []), .nilslice] [(0, 1, (.c (.str [114, 101, 97, 100, 121]))), (1, 1, (.t i31))]⟩⟩, ⟨42, .i, ⟨none, none, .insert .int (.t i3) (.c (.int .u8 (.ofNat 22))) (.t i32)⟩⟩, ⟨43, .v, ⟨(some i33), none, .move (.t i1)⟩⟩, ⟨44, .v, ⟨(some i34), none, .build [(.str []), .nilslice] [(0, 1, (.c (.str [112, 114, 101, 101, 109, 112, 116]))), (1, 1, (.t i33))]⟩⟩, ⟨45, .i, ⟨none, none, .insert .int (.t i3) (.c (.int .u8 (.ofNat 23))) (.t i34)⟩⟩, ⟨46, .v, ⟨(some i35), none, .move (.t i1)⟩⟩, ⟨47, .v, ⟨(some i36), none, .build [(.str []), .nilslice] [(0, 1, (.c (.str [108, 111, 99, 107, 101, 100]))), (1, 1, (.t i35))]⟩⟩, ⟨48, .i, ⟨none, none, .insert .int (.t i3) (.c (.int .u8 (.ofNat 24))) (.t i36)⟩⟩, ⟨49, .a, ⟨(some i37), none, .buildSlice [(.str []), (.str []), (.str [])] 3 [(0, 1, (.c (.str [119, 111, 114, 107, 101, 114]))), (1, 1, (.c (.str [116, 97, 115, 107]))), (2, 1, (.c (.str [115, 101, 116])))]⟩⟩, ⟨50, .v, ⟨(some i38), none, .build [(.str []), .nilslice] [(0, 1, (.c (.str [112, 111, 108, 108]))), (1, 1, (.t i37))]⟩⟩, ⟨51, .i, ⟨none, none, .insert .int (.t i3) (.c (.int .u8 (.ofNat 25))) (.t i38)⟩⟩, ⟨52, .v, ⟨(some i39), none, .move (.t i1)⟩⟩, ⟨53, .v, ⟨(some i40), none, .sliceSl 1 (.t i39) none (some (.c (.int .i64 (.ofNat 1)))) none⟩⟩, ⟨54, .v, ⟨(some i41), none, .build [(.str []), .nilslice] [(0, 1, (.c (.str [102, 114, 101, 101]))), (1, 1, (.t i40))]⟩⟩, ⟨55, .i, ⟨none, none, .insert .int (.t i3) (.c (.int .u8 (.ofNat 26))) (.t i41)⟩⟩, ⟨56, .v, ⟨(some i42), none, .move (.t i3)⟩⟩, ⟨57, .v, ⟨(some i0), none, .move (.t i42)⟩⟩])
  .ret)))⟩
theorem tr175 : trFunc (tyIn Tryz.prog tyn) ibn Tryz.f175 = some af175 := by kernel_rfl
theorem nm175 : (Tryz.f175.name == "runtime.NumGoroutine") = false := by kernel_rfl
theorem good175 : GoodAt Tryz.prog tyn ibn i175 af175 := goodAt Tryz.func175 tr175 nm175 rfl
def af176 : AFunc := ⟨[.tmp i3], (.seq (.region [⟨(some i3), none, .move (.c (.bool false))⟩])
  (.seq (.region [⟨(some i4), none, .fieldAddr 1 (.t i1)⟩, ⟨(some i5), none, .load none (.t i4)⟩, ⟨(some i6), none, .move (.t i0)⟩, ⟨(some i7), none, .call i177 [(.t i5), (.t i6)]⟩, ⟨(some i3), none, .move (.t i7)⟩])
  .ret))⟩
theorem tr176 : trFunc (tyIn Tryz.prog tyn) ibn Tryz.f176 = some af176 := by kernel_rfl
theorem nm176 : (Tryz.f176.name == "runtime.NumGoroutine") = false := by kernel_rfl
theorem good176 : GoodAt Tryz.prog tyn ibn i176 af176 := goodAt Tryz.func176 tr176 nm176 rfl
def af177 : AFunc := ⟨[.tmp i4], (.seq (.region [⟨(some i4), none, .move (.c (.bool false))⟩])
  (.seq (.region [⟨(some i5), none, .move (.t i0)⟩, ⟨(some i6), none, .move (.t i1)⟩, ⟨(some i7), none, .call i205 [(.t i5), (.t i6)]⟩, ⟨(some i8), none, .bin .geq (.t i7) (.c (.int .i64 (.ofNat 0)))⟩, ⟨(some i4), none, .move (.t i8)⟩])
  .ret))⟩
theorem tr177 : trFunc (tyIn Tryz.prog tyn) ibn Tryz.f177 = some af177 := by kernel_rfl
theorem nm177 : (Tryz.f177.name == "runtime.NumGoroutine") = false := by kernel_rfl
theorem good177 : GoodAt Tryz.prog tyn ibn i177 af177 := goodAt Tryz.func177 tr177 nm177 rfl
def af178 : AFunc := ⟨[.tmp i2], (.seq (.region [⟨(some i1), none, .box (.t i0)⟩, ⟨(some i2), none, .move (.c .nilfn)⟩])
  (.seq (.region [⟨(some i3), none, .mkfn i206 [] [(.t i1)]⟩, ⟨(some i2), none, .move (.t i3)⟩])
  .ret))⟩
theorem tr178 : trFunc (tyIn Tryz.prog tyn) ibn Tryz.f178 = some af178 := by kernel_rfl
theorem nm178 : (Tryz.f178.name == "runtime.NumGoroutine") = false := by kernel_rfl
theorem good178 : GoodAt Tryz.prog tyn ibn i178 af178 := goodAt Tryz.func178 tr178 nm178 rfl
def af179 : AFunc := ⟨[.tmp i4, .tmp i5], (.seq (.region [⟨(some i4), none, .move (.c (.int .i64 (.ofNat 0)))⟩, ⟨(some i5), none, .move (.c (.int .i64 (.ofNat 0)))⟩])
  (.seq (.seq (.region [⟨(some i6), none, .move (.t i1)⟩])
  (.block 0 (.seq (.region [⟨(some i10), none, .bin (.eq .str) (.t i6) (.c (.str [119, 111, 114, 107, 101, 114]))⟩, ⟨(some i9), none, .move (.t i10)⟩])
  (.cond (.t i9) (.seq (.region [⟨(some i4), none, .move (.c (.int .i64 (.ofNat 0)))⟩, ⟨(some i5), none, .move (.c (.int .i64 (.ofNat 254)))⟩])
  .ret)
  (.seq (.region [⟨(some i12), none, .bin (.eq .str) (.t i6) (.c (.str [116, 97, 115, 107]))⟩, ⟨(some i11), none, .move (.t i12)⟩])
  (.cond (.t i11) (.seq (.region [⟨(some i4), none, .move (.c (.int .i64 (.ofNat 0)))⟩, ⟨(some i5), none, .move (.c (.int .i64 (.ofNat 31)))⟩])
  .ret)
  (.seq (.region [⟨(some i14), none, .bin (.eq .str) (.t i6) (.c (.str [112, 101, 101, 114]))⟩, ⟨(some i13), none, .move (.t i14)⟩])
  (.cond (.t i13) (.seq (.region [⟨(some i4), none, .move (.c (.int .i64 (.ofNat 0)))⟩, ⟨(some i5), none, .move (.c (.int .i64 (.ofNat 31)))⟩])
  (.seq (.region [⟨(some i15), none, .move (.t i0)⟩, ⟨(some i16), none, .bin (.eq .int) (.t i15) (.c (.int .u8 (.ofNat 11)))⟩])
  (.cond (.t i16) (.region [⟨(some i4), none, .move (.c (.int .i64 (.negSucc 0)))⟩, ⟨(some i5), none, .move (.c (.int .i64 (.ofNat 31)))⟩])
  .skip)))
  (.seq (.region [⟨(some i18), none, .bin (.eq .str) (.t i6) (.c (.str [99, 104]))⟩, ⟨(some i17), none, .move (.t i18)⟩])
  (.cond (.t i17) (.seq (.region [⟨(some i4), none, .move (.c (.int .i64 (.ofNat 0)))⟩, ⟨(some i5), none, .move (.c (.int .i64 (.ofNat 5)))⟩])
  .ret)
  (.seq (.region [⟨(some i4), none, .move (.c (.int .i64 (.negSucc 0)))⟩, ⟨(some i5), none, .move (.c (.int .i64 (.ofNat 5)))⟩])
  (.seq (.region [⟨(some i7), none, .move (.t i0)⟩, ⟨(some i8), none, .bin (.eq .int) (.t i7) (.c (.int .u8 (.ofNat 9)))⟩])
  (.cond (.t i8) (.region [⟨(some i4), none, .move (.c (.int .i64 (.ofNat 0)))⟩, ⟨(some i5), none, .move (.c (.int .i64 (.ofNat 7)))⟩])
  .skip)))))))))))))
  (.seq (.region [⟨(some i19), none, .move (.t i4)⟩, ⟨(some i20), none, .move (.t i5)⟩, ⟨(some i4), none, .move (.t i19)⟩, ⟨(some i5), none, .move (.t i20)⟩])
  .ret)))⟩
theorem tr179 : trFunc (tyIn Tryz.prog tyn) ibn Tryz.f179 = some af179 := by kernel_rfl
theorem nm179 : (Tryz.f179.name == "runtime.NumGoroutine") = false := by kernel_rfl
theorem good179 : GoodAt Tryz.prog tyn ibn i179 af179 := goodAt Tryz.func179 tr179 nm179 rfl
def af180 : AFunc := ⟨[.tmp i2], (.seq (.region [⟨(some i2), none, .move (.c (.bool false))⟩])
  (.seq (.region [⟨(some i3), none, .move (.t i0)⟩, ⟨(some i4), none, .bin .geq (.t i3) (.c (.int .u8 (.ofNat 1)))⟩, ⟨(some i5), none, .move (.t i4)⟩, ⟨(some i6), (some (i5, true)), .move (.t i0)⟩, ⟨(some i7), (some (i5, true)), .bin .leq (.t i6) (.c (.int .u8 (.ofNat 11)))⟩, ⟨(some i8), none, .pick (.t i5) (.t i7) (.c (.bool false))⟩, ⟨(some i2), none, .move (.t i8)⟩])
  .ret))⟩
theorem tr180 : trFunc (tyIn Tryz.prog tyn) ibn Tryz.f180 = some af180 := by kernel_rfl
theorem nm180 : (Tryz.f180.name == "runtime.NumGoroutine") = false := by kernel_rfl
theorem good180 : GoodAt Tryz.prog tyn ibn i180 af180 := goodAt Tryz.func180 tr180 nm180 rfl
def af181 : AFunc := ⟨[.cell i10 (some 10), .tmp i11], (.seq (.region [⟨(some i5), none, .box (.t i0)⟩, ⟨(some i6), none, .box (.t i1)⟩, ⟨(some i10), none, .alloc [(.int .i64 (.ofNat 0)), (.int .i64 (.ofNat 0)), (.int .i64 (.ofNat 0)), (.int .i64 (.ofNat 0)), (.int .i64 (.ofNat 0)), (.int .i64 (.ofNat 0)), (.int .i64 (.ofNat 0)), (.int .i64 (.ofNat 0)), (.int .i64 (.ofNat 0)), (.int .i64 (.ofNat 0))]⟩, ⟨(some i11), none, .move (.c (.int .i64 (.ofNat 0)))⟩])
  (.seq (.region [⟨(some i15), none, .load (some 3) (.t i5)⟩, ⟨(some i16), none, .load (some 10) (.t i6)⟩, ⟨(some i17), none, .call i76 [(.t i15), (.t i16)]⟩, ⟨(some i14), none, .move (.t i17)⟩, ⟨(some i18), none, .extract 0 (.t i14)⟩, ⟨(some i19), none, .extract 1 (.t i14)⟩, ⟨(some i12), none, .alloc [(.int .u8 (.ofNat 0)), (.int .i64 (.ofNat 0)), (.int .i64 (.ofNat 0)), (.int .i64 (.ofNat 0)), (.int .i64 (.ofNat 0))]⟩, ⟨none, none, .store (some 5) (.t i12) (.t i18)⟩, ⟨(some i13), none, .move (.t i19)⟩])
  (.seq (.block 0 (.seq (.region [⟨(some i21), none, .move (.t i13)⟩, ⟨(some i22), none, .not (.t i21)⟩, ⟨(some i23), none, .move (.t i22)⟩, ⟨(some i24), (some (i23, false)), .fieldAddr 1 (.t i12)⟩, ⟨(some i25), (some (i23, false)), .load none (.t i24)⟩, ⟨(some i26), (some (i23, false)), .call i122 [(.t i25)]⟩, ⟨(some i27), (some (i23, false)), .not (.t i26)⟩, ⟨(some i28), none, .pick (.t i23) (.c (.bool true)) (.t i27)⟩, ⟨(some i29), none, .move (.t i28)⟩, ⟨(some i30), (some (i29, false)), .fieldAddr 2 (.t i12)⟩, ⟨(some i31), (some (i29, false)), .load none (.t i30)⟩, ⟨(some i32), (some (i29, false)), .call i122 [(.t i31)]⟩, ⟨(some i33), (some (i29, false)), .not (.t i32)⟩, ⟨(some i34), none, .pick (.t i29) (.c (.bool true)) (.t i33)⟩, ⟨(some i20), none, .move (.t i34)⟩])
  (.cond (.t i20) (.seq (.region [⟨(some i35), none, .build [(.int .i64 (.ofNat 0)), (.int .i64 (.ofNat 0)), (.int .i64 (.ofNat 0)), (.int .i64 (.ofNat 0)), (.int .i64 (.ofNat 0)), (.int .i64 (.ofNat 0)), (.int .i64 (.ofNat 0)), (.int .i64 (.ofNat 0)), (.int .i64 (.ofNat 0)), (.int .i64 (.ofNat 0))] []⟩, ⟨none, none, .store (some 10) (.t i10) (.t i35)⟩, ⟨(some i11), none, .move (.c (.int .i64 (.ofNat 2)))⟩])
  .ret)
  (.seq (.region [⟨(some i37), none, .fieldAddr 0 (.t i12)⟩, ⟨(some i38), none, .load none (.t i37)⟩, ⟨(some i39), none, .call i123 [(.t i38)]⟩, ⟨(some i36), none, .move (.t i39)⟩])
  (.cond (.t i36) (.seq (.region [⟨(some i40), none, .build [(.int .i64 (.ofNat 0)), (.int .i64 (.ofNat 0)), (.int .i64 (.ofNat 0)), (.int .i64 (.ofNat 0)), (.int .i64 (.ofNat 0)), (.int .i64 (.ofNat 0)), (.int .i64 (.ofNat 0)), (.int .i64 (.ofNat 0)), (.int .i64 (.ofNat 0)), (.int .i64 (.ofNat 0))] []⟩, ⟨none, none, .store (some 10) (.t i10) (.t i40)⟩, ⟨(some i11), none, .move (.c (.int .i64 (.ofNat 8)))⟩])
  .ret)
  (.seq (.region [⟨(some i42), none, .fieldAddr 0 (.t i12)⟩, ⟨(some i43), none, .load none (.t i42)⟩, ⟨(some i44), none, .bin (.eq .int) (.t i43) (.c (.int .u8 (.ofNat 8)))⟩, ⟨(some i41), none, .move (.t i44)⟩])
  (.cond (.t i41) (.seq (.region [⟨(some i45), none, .load (some 3) (.t i5)⟩, ⟨(some i46), none, .load (some 10) (.t i6)⟩, ⟨(some i47), none, .load (some 5) (.t i12)⟩, ⟨(some i48), none, .move (.t i2)⟩, ⟨(some i49), none, .move (.t i3)⟩, ⟨(some i50), none, .move (.t i4)⟩, ⟨(some i51), none, .call i207 [(.t i45), (.t i46), (.t i47), (.t i48), (.t i49), (.t i50)]⟩, ⟨(some i52), none, .extract 0 (.t i51)⟩, ⟨(some i53), none, .extract 1 (.t i51)⟩, ⟨none, none, .store (some 10) (.t i10) (.t i52)⟩, ⟨(some i11), none, .move (.t i53)⟩])
  .ret)
  (.seq (.region [⟨(some i55), none, .move (.t i2)⟩, ⟨(some i56), none, .bin (.ne .int) (.t i55) (.c (.int .i64 (.negSucc 0)))⟩, ⟨(some i54), none, .move (.t i56)⟩])
  (.cond (.t i54) (.seq (.region [⟨(some i57), none, .build [(.int .i64 (.ofNat 0)), (.int .i64 (.ofNat 0)), (.int .i64 (.ofNat 0)), (.int .i64 (.ofNat 0)), (.int .i64 (.ofNat 0)), (.int .i64 (.ofNat 0)), (.int .i64 (.ofNat 0)), (.int .i64 (.ofNat 0)), (.int .i64 (.ofNat 0)), (.int .i64 (.ofNat 0))] []⟩, ⟨none, none, .store (some 10) (.t i10) (.t i57)⟩, ⟨(some i11), none, .move (.c (.int .i64 (.ofNat 2)))⟩])
  .ret)
  (.seq (.region [⟨(some i59), none, .fieldAddr 0 (.t i12)⟩, ⟨(some i60), none, .load none (.t i59)⟩, ⟨(some i61), none, .bin (.eq .int) (.t i60) (.c (.int .u8 (.ofNat 10)))⟩, ⟨(some i58), none, .move (.t i61)⟩])
  (.cond (.t i58) (.seq (.region [⟨(some i62), none, .load (some 10) (.t i6)⟩, ⟨none, none, .store (some 10) (.t i10) (.t i62)⟩, ⟨(some i11), none, .move (.c (.int .i64 (.ofNat 0)))⟩])
  .ret)
  .skip)))))))))))
  (.seq (.region [⟨(some i63), none, .fieldAddr 1 (.t i6)⟩, ⟨(some i64), none, .load none (.t i63)⟩, ⟨(some i65), none, .bin .add (.t i64) (.c (.int .i64 (.ofNat 1)))⟩, ⟨(some i66), none, .fieldAddr 1 (.t i6)⟩, ⟨none, none, .store none (.t i66) (.t i65)⟩])
  (.seq (.seq (.region [⟨(some i67), none, .fieldAddr 0 (.t i12)⟩, ⟨(some i68), none, .load none (.t i67)⟩, ⟨(some i69), none, .bin (.eq .int) (.t i68) (.c (.int .u8 (.ofNat 6)))⟩])
  (.cond (.t i69) (.seq (.region [⟨(some i70), none, .fieldAddr 1 (.t i12)⟩, ⟨(some i71), none, .load none (.t i70)⟩, ⟨(some i72), none, .move (.t i3)⟩, ⟨(some i73), none, .fieldAddr 2 (.t i6)⟩, ⟨(some i74), none, .indexArr 8 1 (.t i73) (.t i71)⟩, ⟨none, none, .store none (.t i74) (.t i72)⟩])
  (.drawn [⟨2, .v, ⟨(some i77), none, .move (.t i4)⟩⟩, ⟨3, .e, ⟨(some i78), none, .call i208 [(.t i77)]⟩⟩, ⟨0, .v, ⟨(some i75), none, .fieldAddr 2 (.t i12)⟩⟩, ⟨1, (.r 1), ⟨(some i76), none, .load none (.t i75)⟩⟩, ⟨4, .v, ⟨(some i79), none, .fieldAddr 2 (.t i6)⟩⟩, ⟨5, .v, ⟨(some i80), none, .indexArr 8 1 (.t i79) (.t i76)⟩⟩, ⟨6, .e, ⟨none, none, .store none (.t i80) (.t i78)⟩⟩]))
  .skip))
  (.seq (.region [⟨(some i81), none, .load (some 10) (.t i6)⟩, ⟨none, none, .store (some 10) (.t i10) (.t i81)⟩, ⟨(some i11), none, .move (.c (.int .i64 (.ofNat 0)))⟩])
  .ret))))))⟩
theorem tr181 : trFunc (tyIn Tryz.prog tyn) ibn Tryz.f181 = some af181 := by kernel_rfl
theorem nm181 : (Tryz.f181.name == "runtime.NumGoroutine") = false := by kernel_rfl
theorem good181 : GoodAt Tryz.prog tyn ibn i181 af181 := goodAt Tryz.func181 tr181 nm181 rfl
def af182 : AFunc := ⟨[.tmp i8], (.seq (.region [⟨(some i6), none, .box (.t i2)⟩, ⟨(some i7), none, .box (.t i3)⟩, ⟨(some i8), none, .move (.c (.int .i64 (.ofNat 0)))⟩])
  (.seq (.region [⟨(some i9), none, .move (.t i0)⟩, ⟨(some i10), none, .move (.t i1)⟩, ⟨(some i11), none, .mkfn i209 [] [(.t i6), (.t i7)]⟩, ⟨(some i12), none, .call i134 [(.t i9), (.t i10), (.t i11)]⟩, ⟨(some i8), none, .move (.t i12)⟩])
  .ret))⟩
theorem tr182 : trFunc (tyIn Tryz.prog tyn) ibn Tryz.f182 = some af182 := by kernel_rfl
theorem nm182 : (Tryz.f182.name == "runtime.NumGoroutine") = false := by kernel_rfl
theorem good182 : GoodAt Tryz.prog tyn ibn i182 af182 := goodAt Tryz.func182 tr182 nm182 rfl
def af183 : AFunc := ⟨[.tmp i4], (.seq (.region [⟨(some i2), none, .box (.t i0)⟩, ⟨(some i3), none, .box (.t i1)⟩, ⟨(some i4), none, .move (.c .nilptr)⟩])
  (.seq (.region [⟨(some i6), none, .mkfn i211 [] [(.t i3), (.t i2)]⟩, ⟨(some i5), none, .move (.t i6)⟩])
  (.seq (.seq (.region [⟨(some i7), none, .load none (.t i2)⟩, ⟨(some i8), none, .bin (.eq .ptr) (.t i7) (.c .nilptr)⟩])
  (.cond (.t i8) (.seq (.region [⟨(some i4), none, .move (.c .nilptr)⟩])
  .ret)
  .skip))
  (.seq (.region [⟨(some i9), none, .move (.t i5)⟩, ⟨(some i10), none, .callv (.t i9) []⟩, ⟨(some i4), none, .move (.t i10)⟩])
  .ret))))⟩
theorem tr183 : trFunc (tyIn Tryz.prog tyn) ibn Tryz.f183 = some af183 := by kernel_rfl
theorem nm183 : (Tryz.f183.name == "runtime.NumGoroutine") = false := by kernel_rfl
theorem good183 : GoodAt Tryz.prog tyn ibn i183 af183 := goodAt Tryz.func183 tr183 nm183 rfl
def af184 : AFunc := ⟨[.tmp i4], (.seq (.region [⟨(some i4), none, .move (.c (.bool false))⟩])
  (.seq (.seq (.region [⟨(some i7), none, .move (.t i0)⟩, ⟨(some i8), none, .bin (.eq .ptr) (.t i7) (.c .nilptr)⟩])
  (.cond (.t i8) (.seq (.region [⟨(some i4), none, .move (.c (.bool false))⟩])
  .ret)
  .skip))
  (.seq (.region [⟨(some i10), none, .move (.t i0)⟩, ⟨(some i11), none, .nilCheck (.t i10)⟩, ⟨(some i12), none, .fieldAddr 0 (.t i11)⟩, ⟨(some i13), none, .load none (.t i12)⟩, ⟨(some i14), none, .move (.t i1)⟩, ⟨(some i15), none, .lookup .int (.agg [(.int .i64 (.ofNat 0)), (.int .i64 (.ofNat 0))]) true (.t i13) (.t i14)⟩, ⟨(some i9), none, .move (.t i15)⟩, ⟨(some i16), none, .extract 0 (.t i9)⟩, ⟨(some i17), none, .extract 1 (.t i9)⟩, ⟨(some i5), none, .alloc [(.int .i64 (.ofNat 0)), (.int .i64 (.ofNat 0))]⟩, ⟨none, none, .store (some 2) (.t i5) (.t i16)⟩, ⟨(some i6), none, .move (.t i17)⟩])
  (.seq (.region [⟨(some i18), none, .move (.t i6)⟩, ⟨(some i4), none, .move (.t i18)⟩])
  .ret))))⟩
theorem tr184 : trFunc (tyIn Tryz.prog tyn) ibn Tryz.f184 = some af184 := by kernel_rfl
theorem nm184 : (Tryz.f184.name == "runtime.NumGoroutine") = false := by kernel_rfl
theorem good184 : GoodAt Tryz.prog tyn ibn i184 af184 := goodAt Tryz.func184 tr184 nm184 rfl
def af185 : AFunc := ⟨[.tmp i4], (.seq (.region [⟨(some i2), none, .box (.t i0)⟩, ⟨(some i4), none, .move (.c (.int .i64 (.ofNat 0)))⟩])
  (.seq (.seq (.region [⟨(some i8), none, .load none (.t i2)⟩, ⟨(some i9), none, .bin (.eq .ptr) (.t i8) (.c .nilptr)⟩])
  (.cond (.t i9) (.seq (.region [⟨(some i4), none, .move (.c (.int .i64 (.ofNat 1)))⟩])
  .ret)
  .skip))
  (.seq (.region [⟨(some i11), none, .load none (.t i2)⟩, ⟨(some i12), none, .nilCheck (.t i11)⟩, ⟨(some i13), none, .fieldAddr 0 (.t i12)⟩, ⟨(some i14), none, .load none (.t i13)⟩, ⟨(some i15), none, .move (.t i1)⟩, ⟨(some i16), none, .lookup .int (.agg [(.int .i64 (.ofNat 0)), (.int .i64 (.ofNat 0))]) true (.t i14) (.t i15)⟩, ⟨(some i10), none, .move (.t i16)⟩, ⟨(some i17), none, .extract 0 (.t i10)⟩, ⟨(some i18), none, .extract 1 (.t i10)⟩, ⟨(some i5), none, .alloc [(.int .i64 (.ofNat 0)), (.int .i64 (.ofNat 0))]⟩, ⟨none, none, .store (some 2) (.t i5) (.t i17)⟩, ⟨(some i6), none, .move (.t i18)⟩])
  (.seq (.seq (.region [⟨(some i19), none, .move (.t i6)⟩, ⟨(some i20), none, .not (.t i19)⟩])
  (.cond (.t i20) (.seq (.region [⟨(some i4), none, .move (.c (.int .i64 (.ofNat 3)))⟩])
  .ret)
  .skip))
  (.seq (.region [⟨(some i21), none, .mkfn i212 [] [(.t i2)]⟩, ⟨(some i7), none, .move (.t i21)⟩])
  (.seq (.region [⟨(some i22), none, .move (.t i7)⟩, ⟨(some i23), none, .fieldAddr 0 (.t i5)⟩, ⟨(some i24), none, .load none (.t i23)⟩, ⟨(some i25), none, .fieldAddr 1 (.t i5)⟩, ⟨(some i26), none, .load none (.t i25)⟩, ⟨(some i27), none, .callv (.t i22) [(.t i24), (.t i26)]⟩])
  (.seq (.seq (.region [⟨(some i28), none, .move (.t i1)⟩, ⟨(some i29), none, .load none (.t i2)⟩, ⟨(some i30), none, .nilCheck (.t i29)⟩, ⟨(some i31), none, .fieldAddr 1 (.t i30)⟩, ⟨(some i32), none, .load none (.t i31)⟩, ⟨(some i33), none, .bin (.eq .int) (.t i28) (.t i32)⟩])
  (.cond (.t i33) (.region [⟨(some i34), none, .load none (.t i2)⟩, ⟨(some i35), none, .fieldAddr 1 (.t i5)⟩, ⟨(some i36), none, .load none (.t i35)⟩, ⟨(some i37), none, .nilCheck (.t i34)⟩, ⟨(some i38), none, .fieldAddr 1 (.t i37)⟩, ⟨none, none, .store none (.t i38) (.t i36)⟩])
  .skip))
  (.seq (.seq (.region [⟨(some i39), none, .move (.t i1)⟩, ⟨(some i40), none, .load none (.t i2)⟩, ⟨(some i41), none, .nilCheck (.t i40)⟩, ⟨(some i42), none, .fieldAddr 2 (.t i41)⟩, ⟨(some i43), none, .load none (.t i42)⟩, ⟨(some i44), none, .bin (.eq .int) (.t i39) (.t i43)⟩])
  (.cond (.t i44) (.region [⟨(some i45), none, .load none (.t i2)⟩, ⟨(some i46), none, .fieldAddr 0 (.t i5)⟩, ⟨(some i47), none, .load none (.t i46)⟩, ⟨(some i48), none, .nilCheck (.t i45)⟩, ⟨(some i49), none, .fieldAddr 2 (.t i48)⟩, ⟨none, none, .store none (.t i49) (.t i47)⟩])
  .skip))
  (.seq (.region [⟨(some i50), none, .load none (.t i2)⟩, ⟨(some i51), none, .nilCheck (.t i50)⟩, ⟨(some i52), none, .fieldAddr 0 (.t i51)⟩, ⟨(some i53), none, .load none (.t i52)⟩, ⟨(some i54), none, .move (.t i1)⟩, ⟨none, none, .delete .int (.t i53) (.t i54)⟩])
  (.seq (.region [⟨(some i4), none, .move (.c (.int .i64 (.ofNat 0)))⟩])
  .ret))))))))))⟩
theorem tr185 : trFunc (tyIn Tryz.prog tyn) ibn Tryz.f185 = some af185 := by kernel_rfl
theorem nm185 : (Tryz.f185.name == "runtime.NumGoroutine") = false := by kernel_rfl
theorem good185 : GoodAt Tryz.prog tyn ibn i185 af185 := goodAt Tryz.func185 tr185 nm185 rfl
def af186 : AFunc := ⟨[], (.seq (.drawn [⟨0, .v, ⟨(some i4), none, .move (.t i0)⟩⟩, ⟨1, .v, ⟨(some i5), none, .nilCheck (.t i4)⟩⟩, ⟨2, .v, ⟨(some i6), none, .fieldAddr 0 (.t i5)⟩⟩, ⟨3, (.r 0), ⟨(some i7), none, .load none (.t i6)⟩⟩, ⟨4, .v, ⟨(some i8), none, .move (.t i1)⟩⟩, ⟨5, .v, ⟨(some i9), none, .nilCheck (.t i8)⟩⟩, ⟨6, .v, ⟨(some i10), none, .fieldAddr 26 (.t i9)⟩⟩, ⟨7, (.r 0), ⟨(some i11), none, .load none (.t i10)⟩⟩, ⟨8, .v, ⟨(some i12), none, .indexSl 1 (.t i11) (.c (.int .i64 (.ofNat 0)))⟩⟩, ⟨9, (.r 0), ⟨(some i13), none, .load none (.t i12)⟩⟩, ⟨10, .e, ⟨(some i14), none, .call i10 [(.t i7), (.t i13)]⟩⟩])
  (.seq (.region [⟨(some i15), none, .move (.t i0)⟩, ⟨(some i16), none, .move (.t i1)⟩, ⟨(some i17), none, .move (.t i1)⟩, ⟨(some i18), none, .nilCheck (.t i17)⟩, ⟨(some i19), none, .fieldAddr 26 (.t i18)⟩, ⟨(some i20), none, .load none (.t i19)⟩, ⟨(some i21), none, .indexSl 1 (.t i20) (.c (.int .i64 (.ofNat 0)))⟩, ⟨(some i22), none, .load none (.t i21)⟩, ⟨(some i23), none, .call i78 [(.t i15), (.t i16), (.c (.int .u8 (.ofNat 22))), (.t i22)]⟩])
  (.seq (.region [⟨(some i24), none, .move (.t i1)⟩, ⟨(some i25), none, .move (.t i1)⟩, ⟨(some i26), none, .nilCheck (.t i25)⟩, ⟨(some i27), none, .fieldAddr 26 (.t i26)⟩, ⟨(some i28), none, .load none (.t i27)⟩, ⟨(some i29), none, .sliceSl 1 (.t i28) (some (.c (.int .i64 (.ofNat 1)))) none none⟩, ⟨(some i30), none, .nilCheck (.t i24)⟩, ⟨(some i31), none, .fieldAddr 26 (.t i30)⟩, ⟨none, none, .store none (.t i31) (.t i29)⟩])
  (.region [⟨(some i32), none, .move (.t i1)⟩, ⟨(some i33), none, .call i79 [(.t i32), (.c (.fn i154 [] []))]⟩]))))⟩
theorem tr186 : trFunc (tyIn Tryz.prog tyn) ibn Tryz.f186 = some af186 := by kernel_rfl
theorem nm186 : (Tryz.f186.name == "runtime.NumGoroutine") = false := by kernel_rfl
theorem good186 : GoodAt Tryz.prog tyn ibn i186 af186 := goodAt Tryz.func186 tr186 nm186 rfl
def af187 : AFunc := ⟨[.tmp i2], (.seq (.region [⟨(some i2), none, .move (.c .nilslice)⟩])
  (.seq (.region [⟨(some i6), none, .mkmap .int⟩, ⟨(some i3), none, .alloc [.nilmap]⟩, ⟨none, none, .store none (.t i3) (.t i6)⟩])
  (.seq (.seq (.region [⟨(some i7), none, .move (.t i0)⟩, ⟨(some i8), none, .call i213 [(.t i7)]⟩])
  (.block 0 (.rangeFunc (.t i8) [i9, i10] (.region [⟨(some i5), none, .alloc [(.bool false), (.int .i64 (.ofNat 0)), (.int .i64 (.ofNat 0)), (.int .i64 (.ofNat 0))]⟩, ⟨none, none, .store (some 4) (.t i5) (.t i10)⟩]) (.block 1 (.seq (.region [⟨(some i11), none, .fieldAddr 1 (.t i5)⟩, ⟨(some i12), none, .load none (.t i11)⟩, ⟨(some i13), none, .bin (.ne .int) (.t i12) (.c (.int .i64 (.negSucc 0)))⟩])
  (.cond (.t i13) (.region [⟨(some i14), none, .load none (.t i3)⟩, ⟨(some i15), none, .fieldAddr 1 (.t i5)⟩, ⟨(some i16), none, .load none (.t i15)⟩, ⟨(some i17), none, .build [] []⟩, ⟨none, none, .insert .int (.t i14) (.t i16) (.t i17)⟩])
  .skip))))))
  (.seq (.region [⟨(some i18), none, .load none (.t i3)⟩, ⟨(some i19), none, .call i214 [(.t i18)]⟩, ⟨(some i2), none, .move (.t i19)⟩])
  .ret))))⟩
theorem tr187 : trFunc (tyIn Tryz.prog tyn) ibn Tryz.f187 = some af187 := by kernel_rfl
theorem nm187 : (Tryz.f187.name == "runtime.NumGoroutine") = false := by kernel_rfl
theorem good187 : GoodAt Tryz.prog tyn ibn i187 af187 := goodAt Tryz.func187 tr187 nm187 rfl
def af188 : AFunc := ⟨[], (.seq (.seq (.region [⟨(some i6), none, .move (.t i0)⟩, ⟨(some i7), none, .move (.t i1)⟩, ⟨(some i8), none, .call i215 [(.t i6), (.t i7)]⟩, ⟨(some i9), none, .not (.t i8)⟩])
  (.cond (.t i9) .ret
  .skip))
  (.seq (.region [⟨(some i10), none, .move (.t i1)⟩, ⟨(some i11), none, .nilCheck (.t i10)⟩, ⟨(some i12), none, .fieldAddr 19 (.t i11)⟩, ⟨(some i13), none, .load (some 5) (.t i12)⟩, ⟨(some i4), none, .alloc [(.int .i64 (.ofNat 0)), (.int .i64 (.ofNat 0)), (.bool false), (.int .i64 (.ofNat 0)), (.int .u64 (.ofNat 0))]⟩, ⟨none, none, .store (some 5) (.t i4) (.t i13)⟩])
  (.seq (.drawn [⟨0, .v, ⟨(some i14), none, .move (.t i1)⟩⟩, ⟨1, .v, ⟨(some i15), none, .nilCheck (.t i14)⟩⟩, ⟨2, .v, ⟨(some i16), none, .fieldAddr 9 (.t i15)⟩⟩, ⟨3, (.r 0), ⟨(some i17), none, .load none (.t i16)⟩⟩, ⟨4, .v, ⟨(some i18), none, .fieldAddr 0 (.t i4)⟩⟩, ⟨5, (.r 0), ⟨(some i19), none, .load none (.t i18)⟩⟩, ⟨6, .v, ⟨(some i20), none, .move (.t i1)⟩⟩, ⟨7, .v, ⟨(some i21), none, .nilCheck (.t i20)⟩⟩, ⟨8, .v, ⟨(some i22), none, .fieldAddr 11 (.t i21)⟩⟩, ⟨9, .v, ⟨(some i23), none, .fieldAddr 2 (.t i22)⟩⟩, ⟨10, (.r 0), ⟨(some i24), none, .load none (.t i23)⟩⟩, ⟨11, .v, ⟨(some i25), none, .move (.t i1)⟩⟩, ⟨12, .v, ⟨(some i26), none, .nilCheck (.t i25)⟩⟩, ⟨13, .v, ⟨(some i27), none, .fieldAddr 11 (.t i26)⟩⟩, ⟨14, .v, ⟨(some i28), none, .fieldAddr 0 (.t i27)⟩⟩, ⟨15, (.r 0), ⟨(some i29), none, .load none (.t i28)⟩⟩, ⟨16, .v, ⟨(some i30), none, .fieldAddr 1 (.t i4)⟩⟩, ⟨17, (.r 0), ⟨(some i31), none, .load none (.t i30)⟩⟩, ⟨18, .v, ⟨(some i32), none, .fieldAddr 3 (.t i4)⟩⟩, ⟨19, (.r 0), ⟨(some i33), none, .load none (.t i32)⟩⟩, ⟨20, .v, ⟨(some i34), none, .build [(.int .i64 (.ofNat 0)), (.int .u8 (.ofNat 0)), (.int .i64 (.ofNat 0)), (.int .i64 (.ofNat 0)), (.int .i64 (.ofNat 0)), (.int .i64 (.ofNat 0)), (.int .i64 (.ofNat 0)), (.int .i64 (.ofNat 0)), (.int .i64 (.ofNat 0)), (.int .i64 (.ofNat 0)), (.bool false), (.int .i64 (.ofNat 0)), (.int .u64 (.ofNat 0))] [(1, 1, (.c (.int .u8 (.ofNat 3)))), (3, 1, (.t i17)), (4, 1, (.t i19)), (5, 1, (.t i24)), (6, 1, (.t i29)), (7, 1, (.t i31)), (8, 1, (.t i33))]⟩⟩, ⟨21, .a, ⟨(some i5), none, .alloc [(.int .i64 (.ofNat 0)), (.int .u8 (.ofNat 0)), (.int .i64 (.ofNat 0)), (.int .i64 (.ofNat 0)), (.int .i64 (.ofNat 0)), (.int .i64 (.ofNat 0)), (.int .i64 (.ofNat 0)), (.int .i64 (.ofNat 0)), (.int .i64 (.ofNat 0)), (.int .i64 (.ofNat 0)), (.bool false), (.int .i64 (.ofNat 0)), (.int .u64 (.ofNat 0))]⟩⟩, ⟨22, .e, ⟨none, none, .store (some 13) (.t i5) (.t i34)⟩⟩])
  (.seq (.block 0 (.seq (.region [⟨(some i45), none, .move (.t i1)⟩, ⟨(some i46), none, .nilCheck (.t i45)⟩, ⟨(some i47), none, .fieldAddr 11 (.t i46)⟩, ⟨(some i48), none, .fieldAddr 1 (.t i47)⟩, ⟨(some i49), none, .load none (.t i48)⟩, ⟨(some i44), none, .move (.t i49)⟩])
  (.cond (.t i44) (.seq (.region [⟨(some i50), none, .move (.t i1)⟩, ⟨(some i51), none, .nilCheck (.t i50)⟩, ⟨(some i52), none, .fieldAddr 11 (.t i51)⟩, ⟨(some i53), none, .fieldAddr 3 (.t i52)⟩, ⟨(some i54), none, .load none (.t i53)⟩, ⟨(some i55), none, .fieldAddr 8 (.t i5)⟩, ⟨none, none, .store none (.t i55) (.t i54)⟩, ⟨(some i56), none, .fieldAddr 10 (.t i5)⟩, ⟨none, none, .store none (.t i56) (.c (.bool true))⟩])
  (.region [⟨(some i57), none, .move (.t i1)⟩, ⟨(some i58), none, .move (.t i1)⟩, ⟨(some i59), none, .nilCheck (.t i58)⟩, ⟨(some i60), none, .fieldAddr 11 (.t i59)⟩, ⟨(some i61), none, .fieldAddr 0 (.t i60)⟩, ⟨(some i62), none, .load none (.t i61)⟩, ⟨(some i63), none, .call i171 [(.t i57), (.t i62), (.c (.int .i64 (.ofNat 0))), (.c (.bool false))]⟩]))
  (.seq (.region [⟨(some i65), none, .move (.t i0)⟩, ⟨(some i66), none, .move (.t i1)⟩, ⟨(some i67), none, .call i162 [(.t i65), (.t i66)]⟩, ⟨(some i68), none, .call i216 [(.t i67), (.c (.bool false))]⟩, ⟨(some i64), none, .move (.t i68)⟩])
  (.cond (.t i64) (.seq (.drawn [⟨2, .v, ⟨(some i71), none, .fieldAddr 1 (.t i5)⟩⟩, ⟨3, .e, ⟨none, none, .store none (.t i71) (.c (.int .u8 (.ofNat 4)))⟩⟩, ⟨0, .v, ⟨(some i69), none, .fieldAddr 3 (.t i4)⟩⟩, ⟨1, (.r 1), ⟨(some i70), none, .load none (.t i69)⟩⟩, ⟨4, .v, ⟨(some i72), none, .fieldAddr 9 (.t i5)⟩⟩, ⟨5, .e, ⟨none, none, .store none (.t i72) (.t i70)⟩⟩])
  (.seq (.region [⟨(some i74), none, .move (.t i0)⟩, ⟨(some i75), none, .move (.t i1)⟩, ⟨(some i76), none, .call i162 [(.t i74), (.t i75)]⟩, ⟨(some i77), none, .call i217 [(.t i76)]⟩, ⟨(some i73), none, .move (.t i77)⟩, ⟨(some i78), none, .extract 0 (.t i73)⟩, ⟨(some i79), none, .extract 1 (.t i73)⟩, ⟨(some i80), none, .fieldAddr 8 (.t i5)⟩, ⟨none, none, .store none (.t i80) (.t i78)⟩])
  (.drawn [⟨0, .v, ⟨(some i81), none, .move (.t i1)⟩⟩, ⟨1, .v, ⟨(some i82), none, .move (.t i1)⟩⟩, ⟨2, .v, ⟨(some i83), none, .nilCheck (.t i82)⟩⟩, ⟨3, .v, ⟨(some i84), none, .fieldAddr 11 (.t i83)⟩⟩, ⟨4, .v, ⟨(some i85), none, .fieldAddr 0 (.t i84)⟩⟩, ⟨5, (.r 0), ⟨(some i86), none, .load none (.t i85)⟩⟩, ⟨6, .v, ⟨(some i87), none, .fieldAddr 8 (.t i5)⟩⟩, ⟨7, (.r 0), ⟨(some i88), none, .load none (.t i87)⟩⟩, ⟨8, .e, ⟨(some i89), none, .call i171 [(.t i81), (.t i86), (.t i88), (.c (.bool true))]⟩⟩])))
  (.drawn [⟨0, .v, ⟨(some i35), none, .move (.t i1)⟩⟩, ⟨1, .v, ⟨(some i36), none, .move (.t i1)⟩⟩, ⟨2, .v, ⟨(some i37), none, .nilCheck (.t i36)⟩⟩, ⟨3, .v, ⟨(some i38), none, .fieldAddr 11 (.t i37)⟩⟩, ⟨4, .v, ⟨(some i39), none, .fieldAddr 0 (.t i38)⟩⟩, ⟨5, (.r 0), ⟨(some i40), none, .load none (.t i39)⟩⟩, ⟨6, .v, ⟨(some i41), none, .fieldAddr 3 (.t i4)⟩⟩, ⟨7, (.r 0), ⟨(some i42), none, .load none (.t i41)⟩⟩, ⟨8, .e, ⟨(some i43), none, .call i171 [(.t i35), (.t i40), (.t i42), (.c (.bool true))]⟩⟩]))))))
  (.seq (.region [⟨(some i90), none, .move (.t i0)⟩, ⟨(some i91), none, .load (some 13) (.t i5)⟩, ⟨(some i92), none, .call i93 [(.t i90), (.t i91)]⟩])
  (.region [⟨(some i93), none, .move (.t i1)⟩, ⟨(some i94), none, .nilCheck (.t i93)⟩, ⟨(some i95), none, .fieldAddr 1 (.t i94)⟩, ⟨none, none, .store none (.t i95) (.c (.fn i218 [] []))⟩]))))))⟩
theorem tr188 : trFunc (tyIn Tryz.prog tyn) ibn Tryz.f188 = some af188 := by kernel_rfl
theorem nm188 : (Tryz.f188.name == "runtime.NumGoroutine") = false := by kernel_rfl
theorem good188 : GoodAt Tryz.prog tyn ibn i188 af188 := goodAt Tryz.func188 tr188 nm188 rfl
def af189 : AFunc := ⟨[], (.seq (.drawn [⟨0, .v, ⟨(some i7), none, .move (.t i1)⟩⟩, ⟨1, .v, ⟨(some i8), none, .nilCheck (.t i7)⟩⟩, ⟨2, .v, ⟨(some i9), none, .fieldAddr 9 (.t i8)⟩⟩, ⟨3, (.r 0), ⟨(some i10), none, .load none (.t i9)⟩⟩, ⟨4, .v, ⟨(some i11), none, .move (.t i1)⟩⟩, ⟨5, .v, ⟨(some i12), none, .nilCheck (.t i11)⟩⟩, ⟨6, .v, ⟨(some i13), none, .fieldAddr 11 (.t i12)⟩⟩, ⟨7, .v, ⟨(some i14), none, .fieldAddr 2 (.t i13)⟩⟩, ⟨8, (.r 0), ⟨(some i15), none, .load none (.t i14)⟩⟩, ⟨9, .v, ⟨(some i16), none, .move (.t i1)⟩⟩, ⟨10, .v, ⟨(some i17), none, .nilCheck (.t i16)⟩⟩, ⟨11, .v, ⟨(some i18), none, .fieldAddr 11 (.t i17)⟩⟩, ⟨12, .v, ⟨(some i19), none, .fieldAddr 0 (.t i18)⟩⟩, ⟨13, (.r 0), ⟨(some i20), none, .load none (.t i19)⟩⟩, ⟨14, .v, ⟨(some i21), none, .move (.t i1)⟩⟩, ⟨15, .v, ⟨(some i22), none, .nilCheck (.t i21)⟩⟩, ⟨16, .v, ⟨(some i23), none, .fieldAddr 11 (.t i22)⟩⟩, ⟨17, .v, ⟨(some i24), none, .fieldAddr 3 (.t i23)⟩⟩, ⟨18, (.r 0), ⟨(some i25), none, .load none (.t i24)⟩⟩, ⟨19, .v, ⟨(some i26), none, .build [(.int .i64 (.ofNat 0)), (.int .u8 (.ofNat 0)), (.int .i64 (.ofNat 0)), (.int .i64 (.ofNat 0)), (.int .i64 (.ofNat 0)), (.int .i64 (.ofNat 0)), (.int .i64 (.ofNat 0)), (.int .i64 (.ofNat 0)), (.int .i64 (.ofNat 0)), (.int .i64 (.ofNat 0)), (.bool false), (.int .i64 (.ofNat 0)), (.int .u64 (.ofNat 0))] [(1, 1, (.c (.int .u8 (.ofNat 1)))), (3, 1, (.t i10)), (5, 1, (.t i15)), (6, 1, (.t i20)), (8, 1, (.t i25))]⟩⟩, ⟨20, .a, ⟨(some i4), none, .alloc [(.int .i64 (.ofNat 0)), (.int .u8 (.ofNat 0)), (.int .i64 (.ofNat 0)), (.int .i64 (.ofNat 0)), (.int .i64 (.ofNat 0)), (.int .i64 (.ofNat 0)), (.int .i64 (.ofNat 0)), (.int .i64 (.ofNat 0)), (.int .i64 (.ofNat 0)), (.int .i64 (.ofNat 0)), (.bool false), (.int .i64 (.ofNat 0)), (.int .u64 (.ofNat 0))]⟩⟩, ⟨21, .e, ⟨none, none, .store (some 13) (.t i4) (.t i26)⟩⟩])
  (.seq (.region [⟨(some i27), none, .move (.t i1)⟩, ⟨(some i28), none, .move (.t i1)⟩, ⟨(some i29), none, .nilCheck (.t i28)⟩, ⟨(some i30), none, .fieldAddr 11 (.t i29)⟩, ⟨(some i31), none, .fieldAddr 0 (.t i30)⟩, ⟨(some i32), none, .load none (.t i31)⟩, ⟨(some i33), none, .call i171 [(.t i27), (.t i32), (.c (.int .i64 (.ofNat 0))), (.c (.bool false))]⟩])
  (.seq (.seq (.region [⟨(some i34), none, .move (.t i1)⟩, ⟨(some i35), none, .nilCheck (.t i34)⟩, ⟨(some i36), none, .fieldAddr 11 (.t i35)⟩, ⟨(some i37), none, .fieldAddr 1 (.t i36)⟩, ⟨(some i38), none, .load none (.t i37)⟩])
  (.cond (.t i38) (.drawn [⟨0, .v, ⟨(some i39), none, .move (.t i0)⟩⟩, ⟨1, .v, ⟨(some i40), none, .move (.t i1)⟩⟩, ⟨2, .e, ⟨(some i41), none, .call i162 [(.t i39), (.t i40)]⟩⟩, ⟨3, .v, ⟨(some i42), none, .move (.t i1)⟩⟩, ⟨4, .v, ⟨(some i43), none, .nilCheck (.t i42)⟩⟩, ⟨5, .v, ⟨(some i44), none, .fieldAddr 11 (.t i43)⟩⟩, ⟨6, .v, ⟨(some i45), none, .fieldAddr 3 (.t i44)⟩⟩, ⟨7, (.r 1), ⟨(some i46), none, .load none (.t i45)⟩⟩, ⟨8, .e, ⟨(some i47), none, .call i219 [(.t i41), (.t i46)]⟩⟩])
  (.seq (.region [⟨(some i49), none, .move (.t i0)⟩, ⟨(some i50), none, .move (.t i1)⟩, ⟨(some i51), none, .call i162 [(.t i49), (.t i50)]⟩, ⟨(some i52), none, .call i220 [(.t i51)]⟩, ⟨(some i48), none, .move (.t i52)⟩, ⟨(some i53), none, .extract 0 (.t i48)⟩, ⟨(some i54), none, .extract 1 (.t i48)⟩, ⟨(some i5), none, .move (.t i53)⟩, ⟨(some i6), none, .move (.t i54)⟩])
  (.seq (.region [⟨(some i55), none, .move (.t i5)⟩, ⟨(some i56), none, .fieldAddr 1 (.t i4)⟩, ⟨none, none, .store none (.t i56) (.c (.int .u8 (.ofNat 2)))⟩, ⟨(some i57), none, .fieldAddr 8 (.t i4)⟩, ⟨none, none, .store none (.t i57) (.t i55)⟩, ⟨(some i58), none, .fieldAddr 10 (.t i4)⟩, ⟨none, none, .store none (.t i58) (.c (.bool true))⟩])
  (.region [⟨(some i59), none, .move (.t i1)⟩, ⟨(some i60), none, .move (.t i1)⟩, ⟨(some i61), none, .nilCheck (.t i60)⟩, ⟨(some i62), none, .fieldAddr 11 (.t i61)⟩, ⟨(some i63), none, .fieldAddr 0 (.t i62)⟩, ⟨(some i64), none, .load none (.t i63)⟩, ⟨(some i65), none, .move (.t i5)⟩, ⟨(some i66), none, .call i171 [(.t i59), (.t i64), (.t i65), (.c (.bool true))]⟩])))))
  (.seq (.region [⟨(some i67), none, .move (.t i0)⟩, ⟨(some i68), none, .load (some 13) (.t i4)⟩, ⟨(some i69), none, .call i93 [(.t i67), (.t i68)]⟩])
  (.region [⟨(some i70), none, .move (.t i1)⟩, ⟨(some i71), none, .call i79 [(.t i70), (.c (.fn i154 [] []))]⟩])))))⟩
theorem tr189 : trFunc (tyIn Tryz.prog tyn) ibn Tryz.f189 = some af189 := by kernel_rfl
theorem nm189 : (Tryz.f189.name == "runtime.NumGoroutine") = false := by kernel_rfl
theorem good189 : GoodAt Tryz.prog tyn ibn i189 af189 := goodAt Tryz.func189 tr189 nm189 rfl
def af190 : AFunc := ⟨[.cell i0 (some 2)], (.seq (.region [⟨(some i0), none, .alloc [(.int .u8 (.ofNat 0)), (.int .i64 (.ofNat 0))]⟩])
  (.seq (.region [⟨(some i1), none, .build [(.int .u8 (.ofNat 0)), (.int .i64 (.ofNat 0))] []⟩, ⟨none, none, .store (some 2) (.t i0) (.t i1)⟩])
  .ret))⟩
theorem tr190 : trFunc (tyIn Tryz.prog tyn) ibn Tryz.f190 = some af190 := by kernel_rfl
theorem nm190 : (Tryz.f190.name == "runtime.NumGoroutine") = false := by kernel_rfl
theorem good190 : GoodAt Tryz.prog tyn ibn i190 af190 := goodAt Tryz.func190 tr190 nm190 rfl
def af191 : AFunc := ⟨[.tmp i2], (.seq (.region [⟨(some i1), none, .box (.t i0)⟩, ⟨(some i2), none, .move (.c .nilfn)⟩])
  (.seq (.region [⟨(some i3), none, .mkfn i221 [] [(.t i1)]⟩, ⟨(some i2), none, .move (.t i3)⟩])
  .ret))⟩
theorem tr191 : trFunc (tyIn Tryz.prog tyn) ibn Tryz.f191 = some af191 := by kernel_rfl
theorem nm191 : (Tryz.f191.name == "runtime.NumGoroutine") = false := by kernel_rfl
theorem good191 : GoodAt Tryz.prog tyn ibn i191 af191 := goodAt Tryz.func191 tr191 nm191 rfl
def af192 : AFunc := ⟨[.tmp i4, .tmp i5], (.seq (.region [⟨(some i4), none, .move (.c (.int .i64 (.ofNat 0)))⟩, ⟨(some i5), none, .move (.c (.bool false))⟩])
  (.seq (.region [⟨(some i6), none, .move (.t i0)⟩, ⟨(some i7), none, .move (.t i1)⟩, ⟨(some i8), none, .call i183 [(.t i6), (.t i7)]⟩, ⟨(some i9), none, .call i227 [(.t i8)]⟩, ⟨(some i10), none, .extract 0 (.t i9)⟩, ⟨(some i11), none, .extract 1 (.t i9)⟩, ⟨(some i4), none, .move (.t i10)⟩, ⟨(some i5), none, .move (.t i11)⟩])
  .ret))⟩
theorem tr192 : trFunc (tyIn Tryz.prog tyn) ibn Tryz.f192 = some af192 := by kernel_rfl
theorem nm192 : (Tryz.f192.name == "runtime.NumGoroutine") = false := by kernel_rfl
theorem good192 : GoodAt Tryz.prog tyn ibn i192 af192 := goodAt Tryz.func192 tr192 nm192 rfl
end Go.Am

