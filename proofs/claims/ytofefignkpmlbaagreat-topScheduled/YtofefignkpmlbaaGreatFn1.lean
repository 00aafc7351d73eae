/- An abstract machine for Go code and its soundness over the model; no condition of its own. Used by the proof that the law TopScheduled returns true at every input. -/
import Derived.Test.YtofefignkpmlbaaGreatFnPos
import Derived.Test.YtofefignkpmlbaaGreatFn0
namespace Go.Am
open Go.Proofs
def af60 : AFunc := ⟨[.tmp i2, .tmp i3], (.seq (.region [⟨(some i2), none, .move (.c .nilptr)⟩, ⟨(some i3), none, .move (.c (.int .i64 (.ofNat 0)))⟩])
  (.seq (.seq (.region [⟨(some i4), none, .move (.t i0)⟩, ⟨(some i5), none, .bin .lss (.t i4) (.c (.int .i64 (.ofNat 0)))⟩, ⟨(some i6), none, .move (.t i5)⟩, ⟨(some i7), (some (i6, false)), .move (.t i0)⟩, ⟨(some i8), (some (i6, false)), .bin .gtr (.t i7) (.c (.int .i64 (.ofNat 8)))⟩, ⟨(some i9), none, .pick (.t i6) (.c (.bool true)) (.t i8)⟩])
  (.cond (.t i9) (.seq (.region [⟨(some i2), none, .move (.c .nilptr)⟩, ⟨(some i3), none, .move (.c (.int .i64 (.ofNat 2)))⟩])
  .ret)
  .skip))
  (.seq (.region [⟨(some i10), none, .move (.t i0)⟩, ⟨(some i11), none, .build [(.int .i64 (.ofNat 0)), (.int .i64 (.ofNat 0)), (.int .i64 (.ofNat 0)), (.int .i64 (.ofNat 0)), (.int .i64 (.ofNat 0)), (.int .i64 (.ofNat 0)), (.int .i64 (.ofNat 0)), (.int .i64 (.ofNat 0)), (.int .i64 (.ofNat 0)), (.int .i64 (.ofNat 0)), (.int .i64 (.ofNat 0))] [(8, 1, (.t i10))]⟩, ⟨(some i12), none, .box (.t i11)⟩, ⟨(some i2), none, .move (.t i12)⟩, ⟨(some i3), none, .move (.c (.int .i64 (.ofNat 0)))⟩])
  .ret)))⟩
theorem tr60 : trFunc (tyIn Tryz.prog tyn) ibn Tryz.f60 = some af60 := by kernel_rfl
theorem nm60 : (Tryz.f60.name == "runtime.NumGoroutine") = false := by kernel_rfl
theorem good60 : GoodAt Tryz.prog tyn ibn i60 af60 := goodAt Tryz.func60 tr60 nm60 rfl
def af61 : AFunc := ⟨[.tmp i0], (.seq (.region [⟨(some i0), none, .move (.c .nilptr)⟩])
  (.seq (.region [⟨(some i1), none, .mkmap .int⟩, ⟨(some i2), none, .build [.nilmap, (.int .i64 (.ofNat 0)), (.int .i64 (.ofNat 0))] [(0, 1, (.t i1)), (1, 1, (.c (.int .i64 (.negSucc 0)))), (2, 1, (.c (.int .i64 (.negSucc 0))))]⟩, ⟨(some i3), none, .box (.t i2)⟩, ⟨(some i0), none, .move (.t i3)⟩])
  .ret))⟩
theorem tr61 : trFunc (tyIn Tryz.prog tyn) ibn Tryz.f61 = some af61 := by kernel_rfl
theorem nm61 : (Tryz.f61.name == "runtime.NumGoroutine") = false := by kernel_rfl
theorem good61 : GoodAt Tryz.prog tyn ibn i61 af61 := goodAt Tryz.func61 tr61 nm61 rfl
def af62 : AFunc := ⟨[.tmp i4], (.seq (.region [⟨(some i2), none, .box (.t i0)⟩, ⟨(some i3), none, .box (.t i1)⟩, ⟨(some i4), none, .move (.c (.int .i64 (.ofNat 0)))⟩])
  (.seq (.seq (.region [⟨(some i8), none, .load (some 3) (.t i2)⟩, ⟨(some i9), none, .load (some 10) (.t i3)⟩, ⟨(some i10), none, .call i76 [(.t i8), (.t i9)]⟩, ⟨(some i7), none, .move (.t i10)⟩, ⟨(some i11), none, .extract 0 (.t i7)⟩, ⟨(some i12), none, .extract 1 (.t i7)⟩, ⟨(some i5), none, .alloc [(.int .u8 (.ofNat 0)), (.int .i64 (.ofNat 0)), (.int .i64 (.ofNat 0)), (.int .i64 (.ofNat 0)), (.int .i64 (.ofNat 0))]⟩, ⟨none, none, .store (some 5) (.t i5) (.t i11)⟩, ⟨(some i6), none, .move (.t i12)⟩])
  (.seq (.region [⟨(some i13), none, .move (.t i6)⟩, ⟨(some i14), none, .not (.t i13)⟩])
  (.cond (.t i14) (.seq (.region [⟨(some i4), none, .move (.c (.int .i64 (.ofNat 2)))⟩])
  .ret)
  .skip)))
  (.seq (.region [⟨(some i4), none, .move (.c (.int .i64 (.ofNat 0)))⟩])
  .ret)))⟩
theorem tr62 : trFunc (tyIn Tryz.prog tyn) ibn Tryz.f62 = some af62 := by kernel_rfl
theorem nm62 : (Tryz.f62.name == "runtime.NumGoroutine") = false := by kernel_rfl
theorem good62 : GoodAt Tryz.prog tyn ibn i62 af62 := goodAt Tryz.func62 tr62 nm62 rfl
def af63 : AFunc := ⟨[.tmp i2, .tmp i3], (.seq (.region [⟨(some i2), none, .move (.c .nilptr)⟩, ⟨(some i3), none, .move (.c (.int .i64 (.ofNat 0)))⟩])
  (.seq (.seq (.region [⟨(some i6), none, .move (.t i0)⟩, ⟨(some i7), none, .bin .lss (.t i6) (.c (.int .i64 (.ofNat 1)))⟩, ⟨(some i8), none, .move (.t i7)⟩, ⟨(some i9), (some (i8, false)), .move (.t i0)⟩, ⟨(some i10), (some (i8, false)), .bin .gtr (.t i9) (.c (.int .i64 (.ofNat 6)))⟩, ⟨(some i11), none, .pick (.t i8) (.c (.bool true)) (.t i10)⟩])
  (.cond (.t i11) (.seq (.region [⟨(some i2), none, .move (.c .nilptr)⟩, ⟨(some i3), none, .move (.c (.int .i64 (.ofNat 2)))⟩])
  .ret)
  .skip))
  (.seq (.region [⟨(some i12), none, .move (.t i0)⟩, ⟨(some i13), none, .build [(.int .i64 (.ofNat 0)), (.int .i64 (.ofNat 0)), (.int .i64 (.ofNat 0)), (.int .i64 (.ofNat 0)), (.int .i64 (.ofNat 0)), (.int .i64 (.ofNat 0)), (.int .i64 (.ofNat 0))] [(6, 1, (.t i12))]⟩, ⟨(some i14), none, .box (.t i13)⟩, ⟨(some i4), none, .move (.t i14)⟩])
  (.seq (.seq (.region [⟨(some i15), none, .move (.t i0)⟩, ⟨(some i16), none, .move (.c (.int .i64 (.ofNat 0)))⟩])
  (.block 0 (.loop (.seq (.region [⟨(some i17), none, .bin .lss (.t i16) (.t i15)⟩])
  (.seq (.cond (.t i17) .skip
  (.exit 0))
  (.seq (.block 1 (.seq (.region [⟨(some i18), none, .move (.t i16)⟩, ⟨(some i5), none, .move (.t i18)⟩])
  (.region [⟨(some i19), none, .move (.t i4)⟩, ⟨(some i20), none, .move (.t i5)⟩, ⟨(some i21), none, .move (.t i5)⟩, ⟨(some i22), none, .nilCheck (.t i19)⟩, ⟨(some i23), none, .fieldAddr 0 (.t i22)⟩, ⟨(some i24), none, .indexArr 6 1 (.t i23) (.t i20)⟩, ⟨none, none, .store none (.t i24) (.t i21)⟩])))
  (.region [⟨(some i25), none, .bin .add (.t i16) (.c (.int .i64 (.ofNat 1)))⟩, ⟨(some i16), none, .move (.t i25)⟩])))))))
  (.seq (.region [⟨(some i26), none, .move (.t i4)⟩, ⟨(some i2), none, .move (.t i26)⟩, ⟨(some i3), none, .move (.c (.int .i64 (.ofNat 0)))⟩])
  .ret)))))⟩
theorem tr63 : trFunc (tyIn Tryz.prog tyn) ibn Tryz.f63 = some af63 := by kernel_rfl
theorem nm63 : (Tryz.f63.name == "runtime.NumGoroutine") = false := by kernel_rfl
theorem good63 : GoodAt Tryz.prog tyn ibn i63 af63 := goodAt Tryz.func63 tr63 nm63 rfl
def af64 : AFunc := ⟨[], (.region [⟨(some i6), none, .move (.t i0)⟩, ⟨(some i7), none, .move (.t i0)⟩, ⟨(some i8), none, .move (.t i0)⟩, ⟨(some i9), none, .move (.t i0)⟩, ⟨(some i10), none, .move (.t i0)⟩, ⟨(some i11), none, .move (.t i2)⟩, ⟨(some i12), none, .move (.t i1)⟩, ⟨(some i13), none, .nilCheck (.t i6)⟩, ⟨(some i14), none, .fieldAddr 2 (.t i13)⟩, ⟨none, none, .store none (.t i14) (.t i11)⟩, ⟨(some i15), none, .nilCheck (.t i7)⟩, ⟨(some i16), none, .fieldAddr 3 (.t i15)⟩, ⟨none, none, .store none (.t i16) (.c (.int .i64 (.ofNat 0)))⟩, ⟨(some i17), none, .nilCheck (.t i8)⟩, ⟨(some i18), none, .fieldAddr 4 (.t i17)⟩, ⟨none, none, .store none (.t i18) (.c (.bool false))⟩, ⟨(some i19), none, .nilCheck (.t i9)⟩, ⟨(some i20), none, .fieldAddr 6 (.t i19)⟩, ⟨none, none, .store none (.t i20) (.t i12)⟩, ⟨(some i21), none, .nilCheck (.t i10)⟩, ⟨(some i22), none, .fieldAddr 1 (.t i21)⟩, ⟨none, none, .store none (.t i22) (.c (.fn i77 [] []))⟩])⟩
theorem tr64 : trFunc (tyIn Tryz.prog tyn) ibn Tryz.f64 = some af64 := by kernel_rfl
theorem nm64 : (Tryz.f64.name == "runtime.NumGoroutine") = false := by kernel_rfl
theorem good64 : GoodAt Tryz.prog tyn ibn i64 af64 := goodAt Tryz.func64 tr64 nm64 rfl
def af65 : AFunc := ⟨[], (.seq (.region [⟨(some i7), none, .move (.t i0)⟩, ⟨(some i8), none, .nilCheck (.t i7)⟩, ⟨(some i9), none, .fieldAddr 0 (.t i8)⟩, ⟨(some i10), none, .load none (.t i9)⟩, ⟨(some i11), none, .call i11 [(.t i10)]⟩, ⟨(some i6), none, .move (.t i11)⟩, ⟨(some i12), none, .extract 0 (.t i6)⟩, ⟨(some i13), none, .extract 1 (.t i6)⟩, ⟨(some i4), none, .move (.t i12)⟩, ⟨(some i5), none, .move (.t i13)⟩])
  (.seq (.region [⟨(some i14), none, .move (.t i5)⟩])
  (.block 0 (.seq (.region [⟨(some i18), none, .bin (.eq .int) (.t i14) (.c (.int .u8 (.ofNat 1)))⟩, ⟨(some i17), none, .move (.t i18)⟩])
  (.cond (.t i17) (.seq (.region [⟨(some i19), none, .move (.t i1)⟩, ⟨(some i20), none, .move (.t i1)⟩, ⟨(some i21), none, .move (.t i4)⟩, ⟨(some i22), none, .nilCheck (.t i19)⟩, ⟨(some i23), none, .fieldAddr 9 (.t i22)⟩, ⟨none, none, .store none (.t i23) (.t i21)⟩, ⟨(some i24), none, .nilCheck (.t i20)⟩, ⟨(some i25), none, .fieldAddr 10 (.t i24)⟩, ⟨none, none, .store none (.t i25) (.c (.int .i64 (.ofNat 0)))⟩])
  (.seq (.region [⟨(some i26), none, .move (.t i0)⟩, ⟨(some i27), none, .move (.t i1)⟩, ⟨(some i28), none, .move (.t i4)⟩, ⟨(some i29), none, .call i78 [(.t i26), (.t i27), (.c (.int .u8 (.ofNat 21))), (.t i28)]⟩])
  (.region [⟨(some i30), none, .move (.t i1)⟩, ⟨(some i31), none, .call i79 [(.t i30), (.c (.fn i80 [] []))]⟩])))
  (.seq (.region [⟨(some i33), none, .bin (.eq .int) (.t i14) (.c (.int .u8 (.ofNat 3)))⟩, ⟨(some i32), none, .move (.t i33)⟩])
  (.cond (.t i32) (.region [⟨(some i34), none, .move (.t i0)⟩, ⟨(some i35), none, .nilCheck (.t i34)⟩, ⟨(some i36), none, .fieldAddr 17 (.t i35)⟩, ⟨none, none, .store none (.t i36) (.c (.int .u8 (.ofNat 2)))⟩])
  (.seq (.region [⟨(some i38), none, .bin (.eq .int) (.t i14) (.c (.int .u8 (.ofNat 4)))⟩, ⟨(some i37), none, .move (.t i38)⟩])
  (.cond (.t i37) (.region [⟨(some i39), none, .move (.t i0)⟩, ⟨(some i40), none, .nilCheck (.t i39)⟩, ⟨(some i41), none, .fieldAddr 17 (.t i40)⟩, ⟨none, none, .store none (.t i41) (.c (.int .u8 (.ofNat 4)))⟩])
  (.region [⟨(some i15), none, .move (.t i1)⟩, ⟨(some i16), none, .call i79 [(.t i15), (.c (.fn i45 [] []))]⟩]))))))))))⟩
theorem tr65 : trFunc (tyIn Tryz.prog tyn) ibn Tryz.f65 = some af65 := by kernel_rfl
theorem nm65 : (Tryz.f65.name == "runtime.NumGoroutine") = false := by kernel_rfl
theorem good65 : GoodAt Tryz.prog tyn ibn i65 af65 := goodAt Tryz.func65 tr65 nm65 rfl
def af66 : AFunc := ⟨[.tmp i2], (.seq (.region [⟨(some i2), none, .move (.c .nilptr)⟩])
  (.seq (.seq (.region [⟨(some i3), none, .move (.t i0)⟩, ⟨(some i4), none, .bin (.eq .ptr) (.t i3) (.c .nilptr)⟩])
  (.cond (.t i4) (.seq (.region [⟨(some i2), none, .move (.c .nilptr)⟩])
  .ret)
  .skip))
  (.seq (.region [⟨(some i5), none, .move (.t i0)⟩, ⟨(some i6), none, .nilCheck (.t i5)⟩, ⟨(some i7), none, .fieldAddr 0 (.t i6)⟩, ⟨(some i8), none, .load none (.t i7)⟩, ⟨(some i9), none, .call i82 [(.t i8)]⟩, ⟨(some i10), none, .build [.nilslice] [(0, 1, (.t i9))]⟩, ⟨(some i11), none, .box (.t i10)⟩, ⟨(some i2), none, .move (.t i11)⟩])
  .ret)))⟩
theorem tr66 : trFunc (tyIn Tryz.prog tyn) ibn Tryz.f66 = some af66 := by kernel_rfl
theorem nm66 : (Tryz.f66.name == "runtime.NumGoroutine") = false := by kernel_rfl
theorem good66 : GoodAt Tryz.prog tyn ibn i66 af66 := goodAt Tryz.func66 tr66 nm66 rfl
def af67 : AFunc := ⟨[.cell i4 none], (.seq (.region [⟨(some i3), none, .box (.t i1)⟩, ⟨(some i4), none, .alloc [.nilslice]⟩])
  (.seq (.seq (.region [⟨(some i7), none, .move (.t i0)⟩, ⟨(some i8), none, .mkfn i83 [(.t i7)] []⟩])
  (.block 0 (.rangeFunc (.t i8) [i9, i10] (.region [⟨(some i6), none, .alloc [(.int .i64 (.ofNat 0)), (.int .u8 (.ofNat 0)), (.int .i64 (.ofNat 0)), (.int .i64 (.ofNat 0)), (.int .i64 (.ofNat 0)), (.int .i64 (.ofNat 0)), (.int .i64 (.ofNat 0)), (.int .i64 (.ofNat 0)), (.int .i64 (.ofNat 0)), (.int .i64 (.ofNat 0)), (.bool false), (.int .i64 (.ofNat 0)), (.int .u64 (.ofNat 0))]⟩, ⟨none, none, .store (some 13) (.t i6) (.t i10)⟩]) (.block 1 (.seq (.region [⟨(some i11), none, .load none (.t i3)⟩, ⟨(some i12), none, .load (some 13) (.t i6)⟩, ⟨(some i13), none, .callv (.t i11) [(.t i12)]⟩])
  (.cond (.t i13) (.region [⟨(some i14), none, .load none (.t i4)⟩, ⟨(some i15), none, .load (some 13) (.t i6)⟩, ⟨(some i16), none, .buildSlice [(.int .i64 (.ofNat 0)), (.int .u8 (.ofNat 0)), (.int .i64 (.ofNat 0)), (.int .i64 (.ofNat 0)), (.int .i64 (.ofNat 0)), (.int .i64 (.ofNat 0)), (.int .i64 (.ofNat 0)), (.int .i64 (.ofNat 0)), (.int .i64 (.ofNat 0)), (.int .i64 (.ofNat 0)), (.bool false), (.int .i64 (.ofNat 0)), (.int .u64 (.ofNat 0))] 1 [(0, 13, (.t i15))]⟩, ⟨(some i17), none, .append 13 (.t i14) (.t i16)⟩, ⟨none, none, .store none (.t i4) (.t i17)⟩])
  .skip))))))
  (.seq (.region [⟨(some i18), none, .load none (.t i4)⟩, ⟨(some i19), none, .call i84 [(.t i18)]⟩])
  (.seq (.region [⟨(some i20), none, .load none (.t i4)⟩, ⟨none, none, .store none (.t i4) (.t i20)⟩])
  .ret))))⟩
theorem tr67 : trFunc (tyIn Tryz.prog tyn) ibn Tryz.f67 = some af67 := by kernel_rfl
theorem nm67 : (Tryz.f67.name == "runtime.NumGoroutine") = false := by kernel_rfl
theorem good67 : GoodAt Tryz.prog tyn ibn i67 af67 := goodAt Tryz.func67 tr67 nm67 rfl
def af68 : AFunc := ⟨[.tmp i2], (.seq (.region [⟨(some i1), none, .box (.t i0)⟩, ⟨(some i2), none, .move (.c (.bool false))⟩])
  (.seq (.region [⟨(some i2), none, .move (.c (.bool true))⟩])
  .ret))⟩
theorem tr68 : trFunc (tyIn Tryz.prog tyn) ibn Tryz.f68 = some af68 := by kernel_rfl
theorem nm68 : (Tryz.f68.name == "runtime.NumGoroutine") = false := by kernel_rfl
theorem good68 : GoodAt Tryz.prog tyn ibn i68 af68 := goodAt Tryz.func68 tr68 nm68 rfl
def af69 : AFunc := ⟨[], (.seq (.region [⟨(some i8), none, .move (.t i0)⟩, ⟨(some i9), none, .not (.t i8)⟩])
  (.cond (.t i9) (.region [⟨(some i10), none, .move (.t i1)⟩, ⟨(some i11), none, .move (.t i2)⟩, ⟨(some i12), none, .move (.t i3)⟩, ⟨(some i13), none, .build [(.int .i64 (.ofNat 0)), (.int .i64 (.ofNat 0)), (.int .i64 (.ofNat 0))] [(0, 1, (.t i10)), (1, 1, (.t i11)), (2, 1, (.t i12))]⟩, ⟨(some i14), none, .mkiface 123 (.t i13)⟩, ⟨none, none, .bad⟩])
  .skip))⟩
theorem tr69 : trFunc (tyIn Tryz.prog tyn) ibn Tryz.f69 = some af69 := by kernel_rfl
theorem nm69 : (Tryz.f69.name == "runtime.NumGoroutine") = false := by kernel_rfl
theorem good69 : GoodAt Tryz.prog tyn ibn i69 af69 := goodAt Tryz.func69 tr69 nm69 rfl
def af70 : AFunc := ⟨[.tmp i4], (.seq (.region [⟨(some i2), none, .box (.t i0)⟩, ⟨(some i3), none, .box (.t i1)⟩, ⟨(some i4), none, .move (.c (.bool false))⟩])
  (.seq (.seq (.region [⟨(some i7), none, .fieldAddr 0 (.t i3)⟩, ⟨(some i8), none, .load none (.t i7)⟩, ⟨(some i9), none, .lenSl (.t i8)⟩, ⟨(some i10), none, .bin (.eq .int) (.t i9) (.c (.int .i64 (.ofNat 0)))⟩, ⟨(some i11), none, .move (.t i10)⟩, ⟨(some i12), (some (i11, false)), .fieldAddr 0 (.t i3)⟩, ⟨(some i13), (some (i11, false)), .load none (.t i12)⟩, ⟨(some i14), (some (i11, false)), .lenSl (.t i13)⟩, ⟨(some i15), (some (i11, false)), .bin .gtr (.t i14) (.c (.int .i64 (.ofNat 6)))⟩, ⟨(some i16), none, .pick (.t i11) (.c (.bool true)) (.t i15)⟩])
  (.cond (.t i16) (.seq (.region [⟨(some i4), none, .move (.c (.bool false))⟩])
  .ret)
  .skip))
  (.seq (.seq (.region [⟨(some i17), none, .fieldAddr 0 (.t i3)⟩, ⟨(some i18), none, .load none (.t i17)⟩, ⟨(some i19), none, .lenSl (.t i18)⟩, ⟨(some i20), none, .move (.c (.int .i64 (.ofNat 0)))⟩])
  (.block 0 (.loop (.seq (.region [⟨(some i21), none, .bin .lss (.t i20) (.t i19)⟩])
  (.seq (.cond (.t i21) .skip
  (.exit 0))
  (.seq (.block 1 (.seq (.region [⟨(some i22), none, .indexSl 4 (.t i18) (.t i20)⟩, ⟨(some i23), none, .load (some 4) (.t i22)⟩, ⟨(some i6), none, .alloc [(.bool false), (.int .i64 (.ofNat 0)), (.int .i64 (.ofNat 0)), (.int .i64 (.ofNat 0))]⟩, ⟨none, none, .store (some 4) (.t i6) (.t i23)⟩])
  (.seq (.region [⟨(some i24), none, .load (some 3) (.t i2)⟩, ⟨(some i25), none, .load (some 4) (.t i6)⟩, ⟨(some i26), none, .call i85 [(.t i24), (.t i25)]⟩, ⟨(some i27), none, .not (.t i26)⟩])
  (.cond (.t i27) (.seq (.region [⟨(some i4), none, .move (.c (.bool false))⟩])
  .ret)
  .skip))))
  (.region [⟨(some i28), none, .bin .add (.t i20) (.c (.int .i64 (.ofNat 1)))⟩, ⟨(some i20), none, .move (.t i28)⟩])))))))
  (.seq (.region [⟨(some i4), none, .move (.c (.bool true))⟩])
  .ret))))⟩
theorem tr70 : trFunc (tyIn Tryz.prog tyn) ibn Tryz.f70 = some af70 := by kernel_rfl
theorem nm70 : (Tryz.f70.name == "runtime.NumGoroutine") = false := by kernel_rfl
theorem good70 : GoodAt Tryz.prog tyn ibn i70 af70 := goodAt Tryz.func70 tr70 nm70 rfl
def af71 : AFunc := ⟨[.tmp i10], (.seq (.region [⟨(some i5), none, .box (.t i0)⟩, ⟨(some i10), none, .move (.c (.int .i64 (.ofNat 0)))⟩])
  (.seq (.drawn [⟨0, .v, ⟨(some i16), none, .move (.t i2)⟩⟩, ⟨1, .v, ⟨(some i17), none, .move (.t i3)⟩⟩, ⟨2, .v, ⟨(some i18), none, .move (.t i4)⟩⟩, ⟨3, .e, ⟨(some i19), none, .call i86 [(.t i16), (.t i17), (.t i18)]⟩⟩, ⟨4, .v, ⟨(some i20), none, .fieldAddr 0 (.t i5)⟩⟩, ⟨5, (.r 1), ⟨(some i21), none, .load none (.t i20)⟩⟩, ⟨6, (.r 0), ⟨(some i22), none, .lookup .int (.agg [(.str []), (.str []), (.int .i64 (.ofNat 0))]) true (.t i19) (.t i21)⟩⟩, ⟨7, .v, ⟨(some i15), none, .move (.t i22)⟩⟩, ⟨8, .v, ⟨(some i23), none, .extract 0 (.t i15)⟩⟩, ⟨10, .a, ⟨(some i11), none, .alloc [(.str []), (.str []), (.int .i64 (.ofNat 0))]⟩⟩, ⟨11, .e, ⟨none, none, .store (some 3) (.t i11) (.t i23)⟩⟩, ⟨9, .v, ⟨(some i24), none, .extract 1 (.t i15)⟩⟩, ⟨12, .v, ⟨(some i12), none, .move (.t i24)⟩⟩])
  (.seq (.seq (.region [⟨(some i25), none, .move (.t i12)⟩, ⟨(some i26), none, .not (.t i25)⟩, ⟨(some i27), none, .move (.t i26)⟩, ⟨(some i28), (some (i27, false)), .load (some 5) (.t i5)⟩, ⟨(some i29), (some (i27, false)), .load (some 3) (.t i11)⟩, ⟨(some i30), (some (i27, false)), .call i87 [(.t i28), (.t i29)]⟩, ⟨(some i31), (some (i27, false)), .not (.t i30)⟩, ⟨(some i32), none, .pick (.t i27) (.c (.bool true)) (.t i31)⟩])
  (.cond (.t i32) (.seq (.region [⟨(some i10), none, .move (.c (.int .i64 (.ofNat 2)))⟩])
  .ret)
  .skip))
  (.seq (.region [⟨(some i13), none, .move (.c (.fn i88 [] []))⟩])
  (.seq (.seq (.region [⟨(some i33), none, .fieldAddr 0 (.t i5)⟩, ⟨(some i34), none, .load none (.t i33)⟩, ⟨(some i35), none, .bin (.ne .int) (.t i34) (.c (.int .u8 (.ofNat 1)))⟩, ⟨(some i36), none, .move (.t i35)⟩, ⟨(some i37), (some (i36, true)), .fieldAddr 1 (.t i11)⟩, ⟨(some i38), (some (i36, true)), .load none (.t i37)⟩, ⟨(some i39), (some (i36, true)), .call i89 [(.t i38), (.c (.str [107]))]⟩, ⟨(some i40), none, .pick (.t i36) (.t i39) (.c (.bool false))⟩, ⟨(some i14), none, .move (.t i40)⟩])
  (.block 0 (.seq (.region [⟨(some i42), none, .move (.t i13)⟩, ⟨(some i43), none, .fieldAddr 1 (.t i5)⟩, ⟨(some i44), none, .load none (.t i43)⟩, ⟨(some i45), none, .callv (.t i42) [(.t i44)]⟩, ⟨(some i46), none, .not (.t i45)⟩, ⟨(some i47), none, .move (.t i46)⟩, ⟨(some i48), (some (i47, false)), .move (.t i13)⟩, ⟨(some i49), (some (i47, false)), .fieldAddr 2 (.t i5)⟩, ⟨(some i50), (some (i47, false)), .load none (.t i49)⟩, ⟨(some i51), (some (i47, false)), .callv (.t i48) [(.t i50)]⟩, ⟨(some i52), (some (i47, false)), .not (.t i51)⟩, ⟨(some i53), none, .pick (.t i47) (.c (.bool true)) (.t i52)⟩, ⟨(some i41), none, .move (.t i53)⟩])
  (.cond (.t i41) (.seq (.region [⟨(some i10), none, .move (.c (.int .i64 (.ofNat 2)))⟩])
  .ret)
  (.seq (.region [⟨(some i55), none, .fieldAddr 3 (.t i5)⟩, ⟨(some i56), none, .load none (.t i55)⟩, ⟨(some i57), none, .bin (.ne .int) (.t i56) (.c (.int .i64 (.negSucc 0)))⟩, ⟨(some i58), none, .move (.t i57)⟩, ⟨(some i59), (some (i58, true)), .fieldAddr 1 (.t i11)⟩, ⟨(some i60), (some (i58, true)), .load none (.t i59)⟩, ⟨(some i61), (some (i58, true)), .call i89 [(.t i60), (.c (.str [99]))]⟩, ⟨(some i62), none, .pick (.t i58) (.t i61) (.c (.bool false))⟩, ⟨(some i63), none, .move (.t i62)⟩, ⟨(some i64), (some (i63, true)), .fieldAddr 3 (.t i5)⟩, ⟨(some i65), (some (i63, true)), .load none (.t i64)⟩, ⟨(some i66), (some (i63, true)), .bin .lss (.t i65) (.c (.int .i64 (.ofNat 0)))⟩, ⟨(some i67), (some (i63, true)), .move (.t i66)⟩, ⟨(some i68), (some (i67, false)), .fieldAddr 3 (.t i5)⟩, ⟨(some i69), (some (i67, false)), .load none (.t i68)⟩, ⟨(some i70), (some (i67, false)), .move (.t i1)⟩, ⟨(some i71), (some (i67, false)), .bin .geq (.t i69) (.t i70)⟩, ⟨(some i72), (some (i63, true)), .pick (.t i67) (.c (.bool true)) (.t i71)⟩, ⟨(some i73), none, .pick (.t i63) (.t i72) (.c (.bool false))⟩, ⟨(some i54), none, .move (.t i73)⟩])
  (.cond (.t i54) (.seq (.region [⟨(some i10), none, .move (.c (.int .i64 (.ofNat 2)))⟩])
  .ret)
  (.seq (.region [⟨(some i75), none, .move (.t i14)⟩, ⟨(some i76), none, .move (.t i75)⟩, ⟨(some i77), (some (i76, true)), .fieldAddr 4 (.t i5)⟩, ⟨(some i78), (some (i76, true)), .load none (.t i77)⟩, ⟨(some i79), (some (i76, true)), .bin .lss (.t i78) (.c (.int .i64 (.ofNat 0)))⟩, ⟨(some i80), (some (i76, true)), .move (.t i79)⟩, ⟨(some i81), (some (i80, false)), .fieldAddr 4 (.t i5)⟩, ⟨(some i82), (some (i80, false)), .load none (.t i81)⟩, ⟨(some i83), (some (i80, false)), .fieldAddr 2 (.t i11)⟩, ⟨(some i84), (some (i80, false)), .load none (.t i83)⟩, ⟨(some i85), (some (i80, false)), .bin .geq (.t i82) (.t i84)⟩, ⟨(some i86), (some (i76, true)), .pick (.t i80) (.c (.bool true)) (.t i85)⟩, ⟨(some i87), none, .pick (.t i76) (.t i86) (.c (.bool false))⟩, ⟨(some i74), none, .move (.t i87)⟩])
  (.cond (.t i74) (.seq (.region [⟨(some i10), none, .move (.c (.int .i64 (.ofNat 2)))⟩])
  .ret)
  .skip))))))))
  (.seq (.region [⟨(some i10), none, .move (.c (.int .i64 (.ofNat 0)))⟩])
  .ret))))))⟩
theorem tr71 : trFunc (tyIn Tryz.prog tyn) ibn Tryz.f71 = some af71 := by kernel_rfl
theorem nm71 : (Tryz.f71.name == "runtime.NumGoroutine") = false := by kernel_rfl
theorem good71 : GoodAt Tryz.prog tyn ibn i71 af71 := goodAt Tryz.func71 tr71 nm71 rfl
def af72 : AFunc := ⟨[.tmp i2], (.seq (.region [⟨(some i2), none, .move (.c .nilslice)⟩])
  (.seq (.seq (.region [⟨(some i3), none, .move (.t i0)⟩, ⟨(some i4), none, .bin (.eq .slice) (.t i3) (.c .nilslice)⟩])
  (.cond (.t i4) (.seq (.region [⟨(some i2), none, .move (.c .nilslice)⟩])
  .ret)
  .skip))
  (.seq (.region [⟨(some i5), none, .buildSlice [] 0 []⟩, ⟨(some i6), none, .move (.t i0)⟩, ⟨(some i7), none, .append 1 (.t i5) (.t i6)⟩, ⟨(some i2), none, .move (.t i7)⟩])
  .ret)))⟩
theorem tr72 : trFunc (tyIn Tryz.prog tyn) ibn Tryz.f72 = some af72 := by kernel_rfl
theorem nm72 : (Tryz.f72.name == "runtime.NumGoroutine") = false := by kernel_rfl
theorem good72 : GoodAt Tryz.prog tyn ibn i72 af72 := goodAt Tryz.func72 tr72 nm72 rfl
def af73 : AFunc := ⟨[.tmp i2], (.seq (.region [⟨(some i2), none, .move (.c .nilslice)⟩])
  (.seq (.seq (.region [⟨(some i3), none, .move (.t i0)⟩, ⟨(some i4), none, .bin (.eq .slice) (.t i3) (.c .nilslice)⟩])
  (.cond (.t i4) (.seq (.region [⟨(some i2), none, .move (.c .nilslice)⟩])
  .ret)
  .skip))
  (.seq (.region [⟨(some i5), none, .buildSlice [] 0 []⟩, ⟨(some i6), none, .move (.t i0)⟩, ⟨(some i7), none, .append 5 (.t i5) (.t i6)⟩, ⟨(some i2), none, .move (.t i7)⟩])
  .ret)))⟩
theorem tr73 : trFunc (tyIn Tryz.prog tyn) ibn Tryz.f73 = some af73 := by kernel_rfl
theorem nm73 : (Tryz.f73.name == "runtime.NumGoroutine") = false := by kernel_rfl
theorem good73 : GoodAt Tryz.prog tyn ibn i73 af73 := goodAt Tryz.func73 tr73 nm73 rfl
def af74 : AFunc := ⟨[.tmp i2], (.seq (.region [⟨(some i2), none, .move (.c .nilslice)⟩])
  (.seq (.seq (.region [⟨(some i3), none, .move (.t i0)⟩, ⟨(some i4), none, .bin (.eq .slice) (.t i3) (.c .nilslice)⟩])
  (.cond (.t i4) (.seq (.region [⟨(some i2), none, .move (.c .nilslice)⟩])
  .ret)
  .skip))
  (.seq (.region [⟨(some i5), none, .buildSlice [] 0 []⟩, ⟨(some i6), none, .move (.t i0)⟩, ⟨(some i7), none, .append 4 (.t i5) (.t i6)⟩, ⟨(some i2), none, .move (.t i7)⟩])
  .ret)))⟩
theorem tr74 : trFunc (tyIn Tryz.prog tyn) ibn Tryz.f74 = some af74 := by kernel_rfl
theorem nm74 : (Tryz.f74.name == "runtime.NumGoroutine") = false := by kernel_rfl
theorem good74 : GoodAt Tryz.prog tyn ibn i74 af74 := goodAt Tryz.func74 tr74 nm74 rfl
def af75 : AFunc := ⟨[.tmp i2], (.seq (.region [⟨(some i2), none, .move (.c (.int .i64 (.ofNat 0)))⟩])
  (.seq (.seq (.region [⟨(some i3), none, .move (.t i0)⟩, ⟨(some i4), none, .bin (.eq .ptr) (.t i3) (.c .nilptr)⟩])
  (.cond (.t i4) (.seq (.region [⟨(some i2), none, .move (.c (.int .i64 (.ofNat 0)))⟩])
  .ret)
  .skip))
  (.seq (.region [⟨(some i5), none, .move (.t i0)⟩, ⟨(some i6), none, .nilCheck (.t i5)⟩, ⟨(some i7), none, .fieldAddr 0 (.t i6)⟩, ⟨(some i8), none, .load none (.t i7)⟩, ⟨(some i9), none, .lenSl (.t i8)⟩, ⟨(some i2), none, .move (.t i9)⟩])
  .ret)))⟩
theorem tr75 : trFunc (tyIn Tryz.prog tyn) ibn Tryz.f75 = some af75 := by kernel_rfl
theorem nm75 : (Tryz.f75.name == "runtime.NumGoroutine") = false := by kernel_rfl
theorem good75 : GoodAt Tryz.prog tyn ibn i75 af75 := goodAt Tryz.func75 tr75 nm75 rfl
def af76 : AFunc := ⟨[.cell i4 (some 5), .tmp i5], (.seq (.region [⟨(some i2), none, .box (.t i0)⟩, ⟨(some i3), none, .box (.t i1)⟩, ⟨(some i4), none, .alloc [(.int .u8 (.ofNat 0)), (.int .i64 (.ofNat 0)), (.int .i64 (.ofNat 0)), (.int .i64 (.ofNat 0)), (.int .i64 (.ofNat 0))]⟩, ⟨(some i5), none, .move (.c (.bool false))⟩])
  (.seq (.region [⟨(some i6), none, .load (some 3) (.t i2)⟩, ⟨(some i7), none, .fieldAddr 0 (.t i3)⟩, ⟨(some i8), none, .load none (.t i7)⟩, ⟨(some i9), none, .fieldAddr 1 (.t i3)⟩, ⟨(some i10), none, .load none (.t i9)⟩, ⟨(some i11), none, .call i90 [(.t i6), (.t i8), (.t i10)]⟩, ⟨(some i12), none, .extract 0 (.t i11)⟩, ⟨(some i13), none, .extract 1 (.t i11)⟩, ⟨none, none, .store (some 5) (.t i4) (.t i12)⟩, ⟨(some i5), none, .move (.t i13)⟩])
  .ret))⟩
theorem tr76 : trFunc (tyIn Tryz.prog tyn) ibn Tryz.f76 = some af76 := by kernel_rfl
theorem nm76 : (Tryz.f76.name == "runtime.NumGoroutine") = false := by kernel_rfl
theorem good76 : GoodAt Tryz.prog tyn ibn i76 af76 := goodAt Tryz.func76 tr76 nm76 rfl
def af77 : AFunc := ⟨[], (.seq (.drawn [⟨0, .v, ⟨(some i5), none, .move (.t i1)⟩⟩, ⟨1, .v, ⟨(some i6), none, .nilCheck (.t i5)⟩⟩, ⟨2, .v, ⟨(some i7), none, .fieldAddr 2 (.t i6)⟩⟩, ⟨3, (.r 0), ⟨(some i8), none, .load none (.t i7)⟩⟩, ⟨4, .v, ⟨(some i9), none, .move (.t i1)⟩⟩, ⟨5, .v, ⟨(some i10), none, .nilCheck (.t i9)⟩⟩, ⟨6, .v, ⟨(some i11), none, .fieldAddr 3 (.t i10)⟩⟩, ⟨7, (.r 0), ⟨(some i12), none, .load none (.t i11)⟩⟩, ⟨8, .v, ⟨(some i13), none, .indexSl 1 (.t i8) (.t i12)⟩⟩, ⟨9, (.r 0), ⟨(some i14), none, .load none (.t i13)⟩⟩, ⟨10, .v, ⟨(some i4), none, .move (.t i14)⟩⟩])
  (.seq (.seq (.region [⟨(some i15), none, .move (.t i1)⟩, ⟨(some i16), none, .nilCheck (.t i15)⟩, ⟨(some i17), none, .fieldAddr 4 (.t i16)⟩, ⟨(some i18), none, .load none (.t i17)⟩, ⟨(some i19), none, .not (.t i18)⟩])
  (.cond (.t i19) (.seq (.region [⟨(some i20), none, .move (.t i1)⟩, ⟨(some i21), none, .move (.t i1)⟩, ⟨(some i22), none, .move (.t i0)⟩, ⟨(some i23), none, .nilCheck (.t i22)⟩, ⟨(some i24), none, .fieldAddr 8 (.t i23)⟩, ⟨(some i25), none, .load none (.t i24)⟩, ⟨(some i26), none, .move (.t i4)⟩, ⟨(some i27), none, .call i91 [(.t i25), (.t i26)]⟩, ⟨(some i28), none, .nilCheck (.t i20)⟩, ⟨(some i29), none, .fieldAddr 5 (.t i28)⟩, ⟨none, none, .store none (.t i29) (.t i27)⟩, ⟨(some i30), none, .nilCheck (.t i21)⟩, ⟨(some i31), none, .fieldAddr 4 (.t i30)⟩, ⟨none, none, .store none (.t i31) (.c (.bool true))⟩])
  .ret)
  .skip))
  (.seq (.seq (.drawn [⟨0, .v, ⟨(some i32), none, .move (.t i0)⟩⟩, ⟨1, .v, ⟨(some i33), none, .nilCheck (.t i32)⟩⟩, ⟨2, .v, ⟨(some i34), none, .fieldAddr 8 (.t i33)⟩⟩, ⟨3, (.r 0), ⟨(some i35), none, .load none (.t i34)⟩⟩, ⟨4, .v, ⟨(some i36), none, .move (.t i4)⟩⟩, ⟨5, .v, ⟨(some i37), none, .move (.t i1)⟩⟩, ⟨6, .v, ⟨(some i38), none, .nilCheck (.t i37)⟩⟩, ⟨7, .v, ⟨(some i39), none, .fieldAddr 5 (.t i38)⟩⟩, ⟨8, (.r 0), ⟨(some i40), none, .load none (.t i39)⟩⟩, ⟨9, .e, ⟨(some i41), none, .call i92 [(.t i35), (.t i36), (.t i40)]⟩⟩, ⟨10, .v, ⟨(some i42), none, .not (.t i41)⟩⟩])
  (.cond (.t i42) .ret
  .skip))
  (.seq (.region [⟨(some i43), none, .move (.t i1)⟩, ⟨(some i44), none, .nilCheck (.t i43)⟩, ⟨(some i45), none, .fieldAddr 3 (.t i44)⟩, ⟨(some i46), none, .load none (.t i45)⟩, ⟨(some i47), none, .bin .add (.t i46) (.c (.int .i64 (.ofNat 1)))⟩, ⟨(some i48), none, .nilCheck (.t i43)⟩, ⟨(some i49), none, .fieldAddr 3 (.t i48)⟩, ⟨none, none, .store none (.t i49) (.t i47)⟩])
  (.seq (.region [⟨(some i50), none, .move (.t i1)⟩, ⟨(some i51), none, .nilCheck (.t i50)⟩, ⟨(some i52), none, .fieldAddr 4 (.t i51)⟩, ⟨none, none, .store none (.t i52) (.c (.bool false))⟩])
  (.seq (.seq (.drawn [⟨0, .v, ⟨(some i53), none, .move (.t i1)⟩⟩, ⟨1, .v, ⟨(some i54), none, .nilCheck (.t i53)⟩⟩, ⟨2, .v, ⟨(some i55), none, .fieldAddr 3 (.t i54)⟩⟩, ⟨3, (.r 0), ⟨(some i56), none, .load none (.t i55)⟩⟩, ⟨4, .v, ⟨(some i57), none, .move (.t i1)⟩⟩, ⟨5, .v, ⟨(some i58), none, .nilCheck (.t i57)⟩⟩, ⟨6, .v, ⟨(some i59), none, .fieldAddr 2 (.t i58)⟩⟩, ⟨7, (.r 0), ⟨(some i60), none, .load none (.t i59)⟩⟩, ⟨8, .v, ⟨(some i61), none, .lenSl (.t i60)⟩⟩, ⟨9, .v, ⟨(some i62), none, .bin .lss (.t i56) (.t i61)⟩⟩])
  (.cond (.t i62) .ret
  .skip))
  (.seq (.region [⟨(some i63), none, .move (.t i1)⟩, ⟨(some i64), none, .move (.t i1)⟩, ⟨(some i65), none, .nilCheck (.t i64)⟩, ⟨(some i66), none, .fieldAddr 6 (.t i65)⟩, ⟨(some i67), none, .load none (.t i66)⟩, ⟨(some i68), none, .nilCheck (.t i63)⟩, ⟨(some i69), none, .fieldAddr 1 (.t i68)⟩, ⟨none, none, .store none (.t i69) (.t i67)⟩])
  (.seq (.region [⟨(some i70), none, .move (.t i1)⟩, ⟨(some i71), none, .nilCheck (.t i70)⟩, ⟨(some i72), none, .fieldAddr 8 (.t i71)⟩, ⟨(some i73), none, .load none (.t i72)⟩])
  (.cond (.t i73) (.seq (.region [⟨(some i74), none, .move (.t i1)⟩, ⟨(some i75), none, .nilCheck (.t i74)⟩, ⟨(some i76), none, .fieldAddr 8 (.t i75)⟩, ⟨none, none, .store none (.t i76) (.c (.bool false))⟩])
  (.region [⟨(some i77), none, .move (.t i0)⟩, ⟨(some i78), none, .move (.t i1)⟩, ⟨(some i79), none, .move (.t i1)⟩, ⟨(some i80), none, .nilCheck (.t i79)⟩, ⟨(some i81), none, .fieldAddr 9 (.t i80)⟩, ⟨(some i82), none, .load none (.t i81)⟩, ⟨(some i83), none, .call i78 [(.t i77), (.t i78), (.c (.int .u8 (.ofNat 24))), (.t i82)]⟩]))
  .skip)))))))))⟩
theorem tr77 : trFunc (tyIn Tryz.prog tyn) ibn Tryz.f77 = some af77 := by kernel_rfl
theorem nm77 : (Tryz.f77.name == "runtime.NumGoroutine") = false := by kernel_rfl
theorem good77 : GoodAt Tryz.prog tyn ibn i77 af77 := goodAt Tryz.func77 tr77 nm77 rfl
def af78 : AFunc := ⟨[], (.region [⟨(some i8), none, .move (.t i0)⟩, ⟨(some i9), none, .move (.t i2)⟩, ⟨(some i10), none, .move (.t i1)⟩, ⟨(some i11), none, .nilCheck (.t i10)⟩, ⟨(some i12), none, .fieldAddr 0 (.t i11)⟩, ⟨(some i13), none, .load none (.t i12)⟩, ⟨(some i14), none, .move (.t i3)⟩, ⟨(some i15), none, .build [(.int .i64 (.ofNat 0)), (.int .u8 (.ofNat 0)), (.int .i64 (.ofNat 0)), (.int .i64 (.ofNat 0)), (.int .i64 (.ofNat 0)), (.int .i64 (.ofNat 0)), (.int .i64 (.ofNat 0)), (.int .i64 (.ofNat 0)), (.int .i64 (.ofNat 0)), (.int .i64 (.ofNat 0)), (.bool false), (.int .i64 (.ofNat 0)), (.int .u64 (.ofNat 0))] [(1, 1, (.t i9)), (2, 1, (.t i13)), (3, 1, (.t i14))]⟩, ⟨(some i16), none, .call i93 [(.t i8), (.t i15)]⟩])⟩
theorem tr78 : trFunc (tyIn Tryz.prog tyn) ibn Tryz.f78 = some af78 := by kernel_rfl
theorem nm78 : (Tryz.f78.name == "runtime.NumGoroutine") = false := by kernel_rfl
theorem good78 : GoodAt Tryz.prog tyn ibn i78 af78 := goodAt Tryz.func78 tr78 nm78 rfl
def af79 : AFunc := ⟨[], (.region [⟨(some i4), none, .move (.t i0)⟩, ⟨(some i5), none, .move (.t i0)⟩, ⟨(some i6), none, .move (.t i1)⟩, ⟨(some i7), none, .nilCheck (.t i4)⟩, ⟨(some i8), none, .fieldAddr 7 (.t i7)⟩, ⟨none, none, .store none (.t i8) (.t i6)⟩, ⟨(some i9), none, .nilCheck (.t i5)⟩, ⟨(some i10), none, .fieldAddr 1 (.t i9)⟩, ⟨none, none, .store none (.t i10) (.c (.fn i94 [] []))⟩])⟩
theorem tr79 : trFunc (tyIn Tryz.prog tyn) ibn Tryz.f79 = some af79 := by kernel_rfl
theorem nm79 : (Tryz.f79.name == "runtime.NumGoroutine") = false := by kernel_rfl
theorem good79 : GoodAt Tryz.prog tyn ibn i79 af79 := goodAt Tryz.func79 tr79 nm79 rfl
def af80 : AFunc := ⟨[], (.region [⟨(some i4), none, .move (.t i1)⟩, ⟨(some i5), none, .nilCheck (.t i4)⟩, ⟨(some i6), none, .fieldAddr 1 (.t i5)⟩, ⟨none, none, .store none (.t i6) (.c (.fn i81 [] []))⟩])⟩
theorem tr80 : trFunc (tyIn Tryz.prog tyn) ibn Tryz.f80 = some af80 := by kernel_rfl
theorem nm80 : (Tryz.f80.name == "runtime.NumGoroutine") = false := by kernel_rfl
theorem good80 : GoodAt Tryz.prog tyn ibn i80 af80 := goodAt Tryz.func80 tr80 nm80 rfl
def af81 : AFunc := ⟨[], (.seq (.region [⟨(some i7), none, .move (.t i0)⟩, ⟨(some i8), none, .move (.t i1)⟩, ⟨(some i9), none, .call i95 [(.t i7), (.t i8)]⟩, ⟨(some i4), none, .alloc [(.int .i64 (.ofNat 0)), (.int .i64 (.ofNat 0)), (.int .i64 (.ofNat 0)), (.int .i64 (.ofNat 0)), (.int .i64 (.ofNat 0)), (.int .i64 (.ofNat 0)), (.int .i64 (.ofNat 0)), (.int .i64 (.ofNat 0)), (.int .i64 (.ofNat 0)), (.int .i64 (.ofNat 0))]⟩, ⟨none, none, .store (some 10) (.t i4) (.t i9)⟩])
  (.block 0 (.seq (.drawn [⟨0, .v, ⟨(some i44), none, .move (.t i0)⟩⟩, ⟨1, .v, ⟨(some i45), none, .nilCheck (.t i44)⟩⟩, ⟨2, .v, ⟨(some i46), none, .fieldAddr 13 (.t i45)⟩⟩, ⟨3, (.r 0), ⟨(some i47), none, .load none (.t i46)⟩⟩, ⟨4, .v, ⟨(some i48), none, .move (.t i1)⟩⟩, ⟨5, .v, ⟨(some i49), none, .nilCheck (.t i48)⟩⟩, ⟨6, .v, ⟨(some i50), none, .fieldAddr 9 (.t i49)⟩⟩, ⟨7, (.r 0), ⟨(some i51), none, .load none (.t i50)⟩⟩, ⟨8, .e, ⟨(some i52), none, .call i96 [(.t i47), (.t i51)]⟩⟩, ⟨9, .v, ⟨(some i43), none, .move (.t i52)⟩⟩])
  (.cond (.t i43) (.region [⟨(some i53), none, .move (.t i0)⟩, ⟨(some i54), none, .move (.t i1)⟩, ⟨(some i55), none, .call i97 [(.t i53), (.t i54)]⟩])
  (.seq (.drawn [⟨0, .v, ⟨(some i57), none, .move (.t i1)⟩⟩, ⟨1, .v, ⟨(some i58), none, .nilCheck (.t i57)⟩⟩, ⟨2, .v, ⟨(some i59), none, .fieldAddr 10 (.t i58)⟩⟩, ⟨3, (.r 0), ⟨(some i60), none, .load none (.t i59)⟩⟩, ⟨4, .v, ⟨(some i61), none, .move (.t i0)⟩⟩, ⟨5, .v, ⟨(some i62), none, .nilCheck (.t i61)⟩⟩, ⟨6, .v, ⟨(some i63), none, .fieldAddr 4 (.t i62)⟩⟩, ⟨7, .v, ⟨(some i64), none, .fieldAddr 1 (.t i63)⟩⟩, ⟨8, (.r 0), ⟨(some i65), none, .load none (.t i64)⟩⟩, ⟨9, .v, ⟨(some i66), none, .bin .geq (.t i60) (.t i65)⟩⟩, ⟨10, .v, ⟨(some i56), none, .move (.t i66)⟩⟩])
  (.cond (.t i56) (.region [⟨(some i67), none, .move (.t i1)⟩, ⟨(some i68), none, .buildSlice [(.int .i64 (.ofNat 0))] 1 [(0, 1, (.c (.int .i64 (.ofNat 0))))]⟩, ⟨(some i69), none, .call i64 [(.t i67), (.c (.fn i98 [] [])), (.t i68)]⟩])
  (.seq (.drawn [⟨0, .v, ⟨(some i11), none, .move (.t i0)⟩⟩, ⟨1, .v, ⟨(some i12), none, .nilCheck (.t i11)⟩⟩, ⟨2, .v, ⟨(some i13), none, .fieldAddr 1 (.t i12)⟩⟩, ⟨3, (.r 0), ⟨(some i14), none, .load (some 3) (.t i13)⟩⟩, ⟨4, (.r 0), ⟨(some i15), none, .load (some 10) (.t i4)⟩⟩, ⟨5, .e, ⟨(some i16), none, .call i99 [(.t i14), (.t i15)]⟩⟩, ⟨6, .v, ⟨(some i10), none, .move (.t i16)⟩⟩, ⟨7, .v, ⟨(some i17), none, .extract 0 (.t i10)⟩⟩, ⟨9, .a, ⟨(some i5), none, .alloc [(.int .i64 (.ofNat 0)), (.int .i64 (.ofNat 0)), (.int .i64 (.ofNat 0)), (.int .i64 (.ofNat 0)), (.int .i64 (.ofNat 0)), (.int .i64 (.ofNat 0)), (.int .i64 (.ofNat 0)), (.int .i64 (.ofNat 0)), (.int .i64 (.ofNat 0)), (.int .i64 (.ofNat 0))]⟩⟩, ⟨10, .e, ⟨none, none, .store (some 10) (.t i5) (.t i17)⟩⟩, ⟨8, .v, ⟨(some i18), none, .extract 1 (.t i10)⟩⟩, ⟨11, .v, ⟨(some i6), none, .move (.t i18)⟩⟩])
  (.seq (.seq (.region [⟨(some i19), none, .move (.t i6)⟩, ⟨(some i20), none, .bin (.ne .int) (.t i19) (.c (.int .i64 (.ofNat 0)))⟩])
  (.cond (.t i20) (.seq (.region [⟨(some i21), none, .move (.t i0)⟩, ⟨(some i22), none, .move (.t i1)⟩, ⟨(some i23), none, .load (some 10) (.t i4)⟩, ⟨(some i24), none, .call i100 [(.t i21), (.t i22), (.t i23)]⟩])
  .ret)
  .skip))
  (.seq (.drawn [⟨0, .v, ⟨(some i25), none, .move (.t i0)⟩⟩, ⟨1, .v, ⟨(some i26), none, .nilCheck (.t i25)⟩⟩, ⟨2, .v, ⟨(some i27), none, .fieldAddr 12 (.t i26)⟩⟩, ⟨3, (.r 0), ⟨(some i28), none, .load none (.t i27)⟩⟩, ⟨4, .v, ⟨(some i29), none, .move (.t i1)⟩⟩, ⟨5, .v, ⟨(some i30), none, .nilCheck (.t i29)⟩⟩, ⟨6, .v, ⟨(some i31), none, .fieldAddr 9 (.t i30)⟩⟩, ⟨7, (.r 0), ⟨(some i32), none, .load none (.t i31)⟩⟩, ⟨8, (.r 0), ⟨(some i33), none, .load (some 10) (.t i5)⟩⟩, ⟨9, .v, ⟨(some i34), none, .build [(.int .u8 (.ofNat 0)), (.int .i64 (.ofNat 0)), (.int .i64 (.ofNat 0)), (.int .i64 (.ofNat 0)), (.int .i64 (.ofNat 0)), (.int .i64 (.ofNat 0)), (.int .i64 (.ofNat 0)), (.int .i64 (.ofNat 0)), (.int .i64 (.ofNat 0)), (.int .i64 (.ofNat 0)), (.int .i64 (.ofNat 0))] [(0, 1, (.c (.int .u8 (.ofNat 1)))), (1, 10, (.t i33))]⟩⟩, ⟨10, .e, ⟨(some i35), none, .call i101 [(.t i28), (.t i32), (.t i34)]⟩⟩])
  (.region [⟨(some i36), none, .move (.t i1)⟩, ⟨(some i37), none, .nilCheck (.t i36)⟩, ⟨(some i38), none, .fieldAddr 10 (.t i37)⟩, ⟨(some i39), none, .load none (.t i38)⟩, ⟨(some i40), none, .bin .add (.t i39) (.c (.int .i64 (.ofNat 1)))⟩, ⟨(some i41), none, .nilCheck (.t i36)⟩, ⟨(some i42), none, .fieldAddr 10 (.t i41)⟩, ⟨none, none, .store none (.t i42) (.t i40)⟩]))))))))))⟩
theorem tr81 : trFunc (tyIn Tryz.prog tyn) ibn Tryz.f81 = some af81 := by kernel_rfl
theorem nm81 : (Tryz.f81.name == "runtime.NumGoroutine") = false := by kernel_rfl
theorem good81 : GoodAt Tryz.prog tyn ibn i81 af81 := goodAt Tryz.func81 tr81 nm81 rfl
def af82 : AFunc := ⟨[.tmp i2], (.seq (.region [⟨(some i2), none, .move (.c .nilslice)⟩])
  (.seq (.seq (.region [⟨(some i3), none, .move (.t i0)⟩, ⟨(some i4), none, .bin (.eq .slice) (.t i3) (.c .nilslice)⟩])
  (.cond (.t i4) (.seq (.region [⟨(some i2), none, .move (.c .nilslice)⟩])
  .ret)
  .skip))
  (.seq (.region [⟨(some i5), none, .buildSlice [] 0 []⟩, ⟨(some i6), none, .move (.t i0)⟩, ⟨(some i7), none, .append 13 (.t i5) (.t i6)⟩, ⟨(some i2), none, .move (.t i7)⟩])
  .ret)))⟩
theorem tr82 : trFunc (tyIn Tryz.prog tyn) ibn Tryz.f82 = some af82 := by kernel_rfl
theorem nm82 : (Tryz.f82.name == "runtime.NumGoroutine") = false := by kernel_rfl
theorem good82 : GoodAt Tryz.prog tyn ibn i82 af82 := goodAt Tryz.func82 tr82 nm82 rfl
def af83 : AFunc := ⟨[], (.seq (.seq (.region [⟨(some i5), none, .move (.t i0)⟩, ⟨(some i6), none, .bin (.eq .ptr) (.t i5) (.c .nilptr)⟩])
  (.cond (.t i6) .ret
  .skip))
  (.seq (.region [⟨(some i7), none, .move (.t i0)⟩, ⟨(some i8), none, .nilCheck (.t i7)⟩, ⟨(some i9), none, .fieldAddr 0 (.t i8)⟩, ⟨(some i10), none, .load none (.t i9)⟩, ⟨(some i11), none, .lenSl (.t i10)⟩, ⟨(some i12), none, .bin .sub (.t i11) (.c (.int .i64 (.ofNat 1)))⟩, ⟨(some i4), none, .move (.t i12)⟩])
  (.block 0 (.loop (.seq (.seq (.region [⟨(some i13), none, .move (.t i4)⟩, ⟨(some i14), none, .bin .geq (.t i13) (.c (.int .i64 (.ofNat 0)))⟩])
  (.cond (.t i14) .skip
  (.exit 0)))
  (.seq (.block 1 (.seq (.region [⟨(some i17), none, .move (.t i1)⟩, ⟨(some i18), none, .move (.t i4)⟩, ⟨(some i19), none, .move (.t i0)⟩, ⟨(some i20), none, .nilCheck (.t i19)⟩, ⟨(some i21), none, .fieldAddr 0 (.t i20)⟩, ⟨(some i22), none, .load none (.t i21)⟩, ⟨(some i23), none, .move (.t i4)⟩, ⟨(some i24), none, .indexSl 13 (.t i22) (.t i23)⟩, ⟨(some i25), none, .load (some 13) (.t i24)⟩, ⟨(some i26), none, .callv (.t i17) [(.t i18), (.t i25)]⟩, ⟨(some i27), none, .not (.t i26)⟩])
  (.cond (.t i27) .ret
  .skip)))
  (.region [⟨(some i15), none, .move (.t i4)⟩, ⟨(some i16), none, .bin .sub (.t i15) (.c (.int .i64 (.ofNat 1)))⟩, ⟨(some i4), none, .move (.t i16)⟩])))))))⟩
theorem tr83 : trFunc (tyIn Tryz.prog tyn) ibn Tryz.f83 = some af83 := by kernel_rfl
theorem nm83 : (Tryz.f83.name == "runtime.NumGoroutine") = false := by kernel_rfl
theorem good83 : GoodAt Tryz.prog tyn ibn i83 af83 := goodAt Tryz.func83 tr83 nm83 rfl
def af84 : AFunc := ⟨[], (.seq (.region [⟨(some i4), none, .move (.t i0)⟩, ⟨(some i5), none, .lenSl (.t i4)⟩, ⟨(some i6), none, .bin .sub (.t i5) (.c (.int .i64 (.ofNat 1)))⟩, ⟨(some i2), none, .move (.c (.int .i64 (.ofNat 0)))⟩, ⟨(some i3), none, .move (.t i6)⟩])
  (.block 0 (.loop (.seq (.seq (.region [⟨(some i7), none, .move (.t i2)⟩, ⟨(some i8), none, .move (.t i3)⟩, ⟨(some i9), none, .bin .lss (.t i7) (.t i8)⟩])
  (.cond (.t i9) .skip
  (.exit 0)))
  (.seq (.block 1 (.drawn [⟨0, .v, ⟨(some i14), none, .move (.t i0)⟩⟩, ⟨1, .v, ⟨(some i15), none, .move (.t i2)⟩⟩, ⟨4, .v, ⟨(some i18), none, .move (.t i0)⟩⟩, ⟨5, .v, ⟨(some i19), none, .move (.t i3)⟩⟩, ⟨6, .v, ⟨(some i20), none, .indexSl 13 (.t i18) (.t i19)⟩⟩, ⟨7, (.r 0), ⟨(some i21), none, .load (some 13) (.t i20)⟩⟩, ⟨8, .v, ⟨(some i22), none, .move (.t i0)⟩⟩, ⟨9, .v, ⟨(some i23), none, .move (.t i2)⟩⟩, ⟨10, .v, ⟨(some i24), none, .indexSl 13 (.t i22) (.t i23)⟩⟩, ⟨11, (.r 0), ⟨(some i25), none, .load (some 13) (.t i24)⟩⟩, ⟨12, .v, ⟨(some i26), none, .indexSl 13 (.t i14) (.t i15)⟩⟩, ⟨13, .e, ⟨none, none, .store (some 13) (.t i26) (.t i21)⟩⟩, ⟨2, .v, ⟨(some i16), none, .move (.t i0)⟩⟩, ⟨3, .v, ⟨(some i17), none, .move (.t i3)⟩⟩, ⟨14, .v, ⟨(some i27), none, .indexSl 13 (.t i16) (.t i17)⟩⟩, ⟨15, .e, ⟨none, none, .store (some 13) (.t i27) (.t i25)⟩⟩]))
  (.region [⟨(some i10), none, .move (.t i2)⟩, ⟨(some i11), none, .bin .add (.t i10) (.c (.int .i64 (.ofNat 1)))⟩, ⟨(some i12), none, .move (.t i3)⟩, ⟨(some i13), none, .bin .sub (.t i12) (.c (.int .i64 (.ofNat 1)))⟩, ⟨(some i2), none, .move (.t i11)⟩, ⟨(some i3), none, .move (.t i13)⟩]))))))⟩
theorem tr84 : trFunc (tyIn Tryz.prog tyn) ibn Tryz.f84 = some af84 := by kernel_rfl
theorem nm84 : (Tryz.f84.name == "runtime.NumGoroutine") = false := by kernel_rfl
theorem good84 : GoodAt Tryz.prog tyn ibn i84 af84 := goodAt Tryz.func84 tr84 nm84 rfl
def af85 : AFunc := ⟨[.tmp i4], (.seq (.region [⟨(some i2), none, .box (.t i0)⟩, ⟨(some i3), none, .box (.t i1)⟩, ⟨(some i4), none, .move (.c (.bool false))⟩])
  (.seq (.region [⟨(some i5), none, .load (some 4) (.t i3)⟩, ⟨(some i6), none, .fieldAddr 0 (.t i2)⟩, ⟨(some i7), none, .fieldAddr 0 (.t i6)⟩, ⟨(some i8), none, .load none (.t i7)⟩, ⟨(some i9), none, .lenSl (.t i8)⟩, ⟨(some i10), none, .call i102 [(.t i5), (.t i9)]⟩, ⟨(some i4), none, .move (.t i10)⟩])
  .ret))⟩
theorem tr85 : trFunc (tyIn Tryz.prog tyn) ibn Tryz.f85 = some af85 := by kernel_rfl
theorem nm85 : (Tryz.f85.name == "runtime.NumGoroutine") = false := by kernel_rfl
theorem good85 : GoodAt Tryz.prog tyn ibn i85 af85 := goodAt Tryz.func85 tr85 nm85 rfl
def af86 : AFunc := ⟨[.tmp i6], (.seq (.region [⟨(some i6), none, .move (.c .nilmap)⟩])
  (.seq (.region [⟨(some i7), none, .mkmap .int⟩, ⟨(some i8), none, .build [(.str []), (.str []), (.int .i64 (.ofNat 0))] [(0, 1, (.c (.str [115, 101, 116]))), (1, 1, (.c (.str [97, 107])))]⟩, ⟨none, none, .insert .int (.t i7) (.c (.int .u8 (.ofNat 1))) (.t i8)⟩, ⟨(some i9), none, .build [(.str []), (.str []), (.int .i64 (.ofNat 0))] [(0, 1, (.c (.str [97, 100, 100]))), (1, 1, (.c (.str [97, 98])))]⟩, ⟨none, none, .insert .int (.t i7) (.c (.int .u8 (.ofNat 2))) (.t i9)⟩, ⟨(some i10), none, .move (.t i2)⟩, ⟨(some i11), none, .build [(.str []), (.str []), (.int .i64 (.ofNat 0))] [(0, 1, (.c (.str [106, 117, 109, 112]))), (1, 1, (.c (.str [107]))), (2, 1, (.t i10))]⟩, ⟨none, none, .insert .int (.t i7) (.c (.int .u8 (.ofNat 3))) (.t i11)⟩, ⟨(some i12), none, .move (.t i2)⟩, ⟨(some i13), none, .build [(.str []), (.str []), (.int .i64 (.ofNat 0))] [(0, 1, (.c (.str [122, 101, 114, 111]))), (1, 1, (.c (.str [97, 107]))), (2, 1, (.t i12))]⟩, ⟨none, none, .insert .int (.t i7) (.c (.int .u8 (.ofNat 4))) (.t i13)⟩, ⟨(some i14), none, .build [(.str []), (.str []), (.int .i64 (.ofNat 0))] [(0, 1, (.c (.str [115, 101, 110, 100]))), (1, 1, (.c (.str [97, 99])))]⟩, ⟨none, none, .insert .int (.t i7) (.c (.int .u8 (.ofNat 5))) (.t i14)⟩, ⟨(some i15), none, .build [(.str []), (.str []), (.int .i64 (.ofNat 0))] [(0, 1, (.c (.str [114, 101, 99, 118]))), (1, 1, (.c (.str [97, 98, 99])))]⟩, ⟨none, none, .insert .int (.t i7) (.c (.int .u8 (.ofNat 6))) (.t i15)⟩, ⟨(some i16), none, .build [(.str []), (.str []), (.int .i64 (.ofNat 0))] [(0, 1, (.c (.str [99, 108, 111, 115, 101]))), (1, 1, (.c (.str [99])))]⟩, ⟨none, none, .insert .int (.t i7) (.c (.int .u8 (.ofNat 7))) (.t i16)⟩, ⟨(some i17), none, .move (.t i0)⟩, ⟨(some i18), none, .build [(.str []), (.str []), (.int .i64 (.ofNat 0))] [(0, 1, (.c (.str [115, 101, 108, 101, 99, 116]))), (1, 1, (.c (.str [98, 107]))), (2, 1, (.t i17))]⟩, ⟨none, none, .insert .int (.t i7) (.c (.int .u8 (.ofNat 8))) (.t i18)⟩, ⟨(some i19), none, .move (.t i1)⟩, ⟨(some i20), none, .build [(.str []), (.str []), (.int .i64 (.ofNat 0))] [(0, 1, (.c (.str [115, 112, 97, 119, 110]))), (1, 1, (.c (.str [107]))), (2, 1, (.t i19))]⟩, ⟨none, none, .insert .int (.t i7) (.c (.int .u8 (.ofNat 9))) (.t i20)⟩, ⟨(some i21), none, .build [(.str []), (.str []), (.int .i64 (.ofNat 0))] [(0, 1, (.c (.str [101, 110, 100])))]⟩, ⟨none, none, .insert .int (.t i7) (.c (.int .u8 (.ofNat 10))) (.t i21)⟩, ⟨(some i22), none, .move (.t i7)⟩, ⟨(some i6), none, .move (.t i22)⟩])
  .ret))⟩
theorem tr86 : trFunc (tyIn Tryz.prog tyn) ibn Tryz.f86 = some af86 := by kernel_rfl
theorem nm86 : (Tryz.f86.name == "runtime.NumGoroutine") = false := by kernel_rfl
theorem good86 : GoodAt Tryz.prog tyn ibn i86 af86 := goodAt Tryz.func86 tr86 nm86 rfl
def af87 : AFunc := ⟨[.cell i4 none], (.seq (.region [⟨(some i2), none, .box (.t i0)⟩, ⟨(some i3), none, .box (.t i1)⟩, ⟨(some i4), none, .alloc [(.bool false)]⟩])
  (.seq (.seq (.region [⟨(some i7), none, .load (some 5) (.t i2)⟩, ⟨(some i8), none, .call i103 [(.t i7)]⟩])
  (.block 0 (.rangeFunc (.t i8) [i9, i10] (.seq (.region [⟨(some i5), none, .move (.t i9)⟩])
  (.region [⟨(some i6), none, .move (.t i10)⟩])) (.block 1 (.seq (.region [⟨(some i11), none, .fieldAddr 1 (.t i3)⟩, ⟨(some i12), none, .load none (.t i11)⟩, ⟨(some i13), none, .move (.t i5)⟩, ⟨(some i14), none, .call i104 [(.t i12), (.t i13)]⟩, ⟨(some i15), none, .bin .lss (.t i14) (.c (.int .i64 (.ofNat 0)))⟩, ⟨(some i16), none, .move (.t i15)⟩, ⟨(some i17), (some (i16, true)), .move (.t i6)⟩, ⟨(some i18), (some (i16, true)), .bin (.ne .int) (.t i17) (.c (.int .i64 (.ofNat 0)))⟩, ⟨(some i19), none, .pick (.t i16) (.t i18) (.c (.bool false))⟩])
  (.cond (.t i19) (.seq (.region [⟨none, none, .store none (.t i4) (.c (.bool false))⟩])
  .ret)
  .skip))))))
  (.seq (.region [⟨none, none, .store none (.t i4) (.c (.bool true))⟩])
  .ret)))⟩
theorem tr87 : trFunc (tyIn Tryz.prog tyn) ibn Tryz.f87 = some af87 := by kernel_rfl
theorem nm87 : (Tryz.f87.name == "runtime.NumGoroutine") = false := by kernel_rfl
theorem good87 : GoodAt Tryz.prog tyn ibn i87 af87 := goodAt Tryz.func87 tr87 nm87 rfl
def af88 : AFunc := ⟨[.tmp i2], (.seq (.region [⟨(some i2), none, .move (.c (.bool false))⟩])
  (.seq (.region [⟨(some i3), none, .move (.t i0)⟩, ⟨(some i4), none, .bin .lss (.t i3) (.c (.int .i64 (.ofNat 0)))⟩, ⟨(some i5), none, .move (.t i4)⟩, ⟨(some i6), (some (i5, false)), .move (.t i0)⟩, ⟨(some i7), (some (i5, false)), .bin .geq (.t i6) (.c (.int .i64 (.ofNat 8)))⟩, ⟨(some i8), none, .pick (.t i5) (.c (.bool true)) (.t i7)⟩, ⟨(some i9), none, .not (.t i8)⟩, ⟨(some i2), none, .move (.t i9)⟩])
  .ret))⟩
theorem tr88 : trFunc (tyIn Tryz.prog tyn) ibn Tryz.f88 = some af88 := by kernel_rfl
theorem nm88 : (Tryz.f88.name == "runtime.NumGoroutine") = false := by kernel_rfl
theorem good88 : GoodAt Tryz.prog tyn ibn i88 af88 := goodAt Tryz.func88 tr88 nm88 rfl
def af89 : AFunc := ⟨[.tmp i4], (.seq (.region [⟨(some i4), none, .move (.c (.bool false))⟩])
  (.seq (.region [⟨(some i5), none, .move (.t i0)⟩, ⟨(some i6), none, .move (.t i1)⟩, ⟨(some i7), none, .call i105 [(.t i5), (.t i6)]⟩, ⟨(some i4), none, .move (.t i7)⟩])
  .ret))⟩
theorem tr89 : trFunc (tyIn Tryz.prog tyn) ibn Tryz.f89 = some af89 := by kernel_rfl
theorem nm89 : (Tryz.f89.name == "runtime.NumGoroutine") = false := by kernel_rfl
theorem good89 : GoodAt Tryz.prog tyn ibn i89 af89 := goodAt Tryz.func89 tr89 nm89 rfl
def af90 : AFunc := ⟨[.cell i6 (some 5), .tmp i7], (.seq (.region [⟨(some i3), none, .box (.t i0)⟩, ⟨(some i6), none, .alloc [(.int .u8 (.ofNat 0)), (.int .i64 (.ofNat 0)), (.int .i64 (.ofNat 0)), (.int .i64 (.ofNat 0)), (.int .i64 (.ofNat 0))]⟩, ⟨(some i7), none, .move (.c (.bool false))⟩])
  (.seq (.seq (.region [⟨(some i8), none, .move (.t i1)⟩, ⟨(some i9), none, .bin .lss (.t i8) (.c (.int .i64 (.ofNat 0)))⟩, ⟨(some i10), none, .move (.t i9)⟩, ⟨(some i11), (some (i10, false)), .move (.t i1)⟩, ⟨(some i12), (some (i10, false)), .fieldAddr 1 (.t i3)⟩, ⟨(some i13), (some (i10, false)), .load none (.t i12)⟩, ⟨(some i14), (some (i10, false)), .lenSl (.t i13)⟩, ⟨(some i15), (some (i10, false)), .bin .geq (.t i11) (.t i14)⟩, ⟨(some i16), none, .pick (.t i10) (.c (.bool true)) (.t i15)⟩, ⟨(some i17), none, .move (.t i16)⟩, ⟨(some i18), (some (i17, false)), .move (.t i2)⟩, ⟨(some i19), (some (i17, false)), .bin .lss (.t i18) (.c (.int .i64 (.ofNat 0)))⟩, ⟨(some i20), none, .pick (.t i17) (.c (.bool true)) (.t i19)⟩, ⟨(some i21), none, .move (.t i20)⟩, ⟨(some i22), (some (i21, false)), .move (.t i2)⟩, ⟨(some i23), (some (i21, false)), .fieldAddr 1 (.t i3)⟩, ⟨(some i24), (some (i21, false)), .load none (.t i23)⟩, ⟨(some i25), (some (i21, false)), .move (.t i1)⟩, ⟨(some i26), (some (i21, false)), .indexSl 1 (.t i24) (.t i25)⟩, ⟨(some i27), (some (i21, false)), .load none (.t i26)⟩, ⟨(some i28), (some (i21, false)), .lenSl (.t i27)⟩, ⟨(some i29), (some (i21, false)), .bin .geq (.t i22) (.t i28)⟩, ⟨(some i30), none, .pick (.t i21) (.c (.bool true)) (.t i29)⟩])
  (.cond (.t i30) (.seq (.region [⟨(some i31), none, .build [(.int .u8 (.ofNat 0)), (.int .i64 (.ofNat 0)), (.int .i64 (.ofNat 0)), (.int .i64 (.ofNat 0)), (.int .i64 (.ofNat 0))] []⟩, ⟨none, none, .store (some 5) (.t i6) (.t i31)⟩, ⟨(some i7), none, .move (.c (.bool false))⟩])
  .ret)
  .skip))
  (.seq (.region [⟨(some i32), none, .fieldAddr 1 (.t i3)⟩, ⟨(some i33), none, .load none (.t i32)⟩, ⟨(some i34), none, .move (.t i1)⟩, ⟨(some i35), none, .indexSl 1 (.t i33) (.t i34)⟩, ⟨(some i36), none, .load none (.t i35)⟩, ⟨(some i37), none, .move (.t i2)⟩, ⟨(some i38), none, .indexSl 5 (.t i36) (.t i37)⟩, ⟨(some i39), none, .load (some 5) (.t i38)⟩, ⟨none, none, .store (some 5) (.t i6) (.t i39)⟩, ⟨(some i7), none, .move (.c (.bool true))⟩])
  .ret)))⟩
theorem tr90 : trFunc (tyIn Tryz.prog tyn) ibn Tryz.f90 = some af90 := by kernel_rfl
theorem nm90 : (Tryz.f90.name == "runtime.NumGoroutine") = false := by kernel_rfl
theorem good90 : GoodAt Tryz.prog tyn ibn i90 af90 := goodAt Tryz.func90 tr90 nm90 rfl
def af91 : AFunc := ⟨[.cell i4 none], (.seq (.region [⟨(some i2), none, .box (.t i0)⟩, ⟨(some i4), none, .alloc [(.int .u16 (.ofNat 0))]⟩])
  (.seq (.region [⟨(some i5), none, .load none (.t i2)⟩, ⟨(some i6), none, .move (.t i1)⟩, ⟨(some i7), none, .mkfn i107 [] [(.t i2), (.t i4)]⟩, ⟨(some i8), none, .call i106 [(.t i5), (.t i6), (.t i7)]⟩])
  (.seq (.region [⟨(some i9), none, .load none (.t i4)⟩, ⟨none, none, .store none (.t i4) (.t i9)⟩])
  .ret)))⟩
theorem tr91 : trFunc (tyIn Tryz.prog tyn) ibn Tryz.f91 = some af91 := by kernel_rfl
theorem nm91 : (Tryz.f91.name == "runtime.NumGoroutine") = false := by kernel_rfl
theorem good91 : GoodAt Tryz.prog tyn ibn i91 af91 := goodAt Tryz.func91 tr91 nm91 rfl
def af92 : AFunc := ⟨[.cell i6 none], (.seq (.region [⟨(some i3), none, .box (.t i0)⟩, ⟨(some i5), none, .box (.t i2)⟩, ⟨(some i6), none, .alloc [(.bool false)]⟩])
  (.seq (.region [⟨(some i7), none, .load none (.t i3)⟩, ⟨(some i8), none, .move (.t i1)⟩, ⟨(some i9), none, .mkfn i109 [] [(.t i3), (.t i5), (.t i6)]⟩, ⟨(some i10), none, .call i106 [(.t i7), (.t i8), (.t i9)]⟩])
  (.seq (.region [⟨(some i11), none, .load none (.t i6)⟩, ⟨none, none, .store none (.t i6) (.t i11)⟩])
  .ret)))⟩
theorem tr92 : trFunc (tyIn Tryz.prog tyn) ibn Tryz.f92 = some af92 := by kernel_rfl
theorem nm92 : (Tryz.f92.name == "runtime.NumGoroutine") = false := by kernel_rfl
theorem good92 : GoodAt Tryz.prog tyn ibn i92 af92 := goodAt Tryz.func92 tr92 nm92 rfl
def af93 : AFunc := ⟨[], (.seq (.region [⟨(some i3), none, .box (.t i1)⟩])
  (.seq (.region [⟨(some i4), none, .move (.t i0)⟩, ⟨(some i5), none, .nilCheck (.t i4)⟩, ⟨(some i6), none, .fieldAddr 16 (.t i5)⟩, ⟨(some i7), none, .load none (.t i6)⟩, ⟨(some i8), none, .fieldAddr 0 (.t i3)⟩, ⟨none, none, .store none (.t i8) (.t i7)⟩])
  (.drawn [⟨0, .v, ⟨(some i9), none, .move (.t i0)⟩⟩, ⟨1, .v, ⟨(some i10), none, .nilCheck (.t i9)⟩⟩, ⟨2, .v, ⟨(some i11), none, .fieldAddr 14 (.t i10)⟩⟩, ⟨3, (.r 0), ⟨(some i12), none, .load none (.t i11)⟩⟩, ⟨4, (.r 0), ⟨(some i13), none, .load (some 13) (.t i3)⟩⟩, ⟨5, .e, ⟨(some i14), none, .call i111 [(.t i12), (.t i13)]⟩⟩])))⟩
theorem tr93 : trFunc (tyIn Tryz.prog tyn) ibn Tryz.f93 = some af93 := by kernel_rfl
theorem nm93 : (Tryz.f93.name == "runtime.NumGoroutine") = false := by kernel_rfl
theorem good93 : GoodAt Tryz.prog tyn ibn i93 af93 := goodAt Tryz.func93 tr93 nm93 rfl
def af94 : AFunc := ⟨[], (.seq (.region [⟨(some i4), none, .move (.t i1)⟩, ⟨(some i5), none, .nilCheck (.t i4)⟩, ⟨(some i6), none, .fieldAddr 3 (.t i5)⟩, ⟨(some i7), none, .load none (.t i6)⟩, ⟨(some i8), none, .bin .sub (.t i7) (.c (.int .i64 (.ofNat 1)))⟩, ⟨(some i9), none, .nilCheck (.t i4)⟩, ⟨(some i10), none, .fieldAddr 3 (.t i9)⟩, ⟨none, none, .store none (.t i10) (.t i8)⟩])
  (.seq (.drawn [⟨0, .v, ⟨(some i11), none, .move (.t i0)⟩⟩, ⟨1, .v, ⟨(some i12), none, .nilCheck (.t i11)⟩⟩, ⟨2, .v, ⟨(some i13), none, .fieldAddr 8 (.t i12)⟩⟩, ⟨3, (.r 0), ⟨(some i14), none, .load none (.t i13)⟩⟩, ⟨4, .v, ⟨(some i15), none, .move (.t i1)⟩⟩, ⟨5, .v, ⟨(some i16), none, .nilCheck (.t i15)⟩⟩, ⟨6, .v, ⟨(some i17), none, .fieldAddr 2 (.t i16)⟩⟩, ⟨7, (.r 0), ⟨(some i18), none, .load none (.t i17)⟩⟩, ⟨8, .v, ⟨(some i19), none, .move (.t i1)⟩⟩, ⟨9, .v, ⟨(some i20), none, .nilCheck (.t i19)⟩⟩, ⟨10, .v, ⟨(some i21), none, .fieldAddr 3 (.t i20)⟩⟩, ⟨11, (.r 0), ⟨(some i22), none, .load none (.t i21)⟩⟩, ⟨12, .v, ⟨(some i23), none, .indexSl 1 (.t i18) (.t i22)⟩⟩, ⟨13, (.r 0), ⟨(some i24), none, .load none (.t i23)⟩⟩, ⟨14, .e, ⟨(some i25), none, .call i112 [(.t i14), (.t i24)]⟩⟩])
  (.seq (.region [⟨(some i26), none, .move (.t i1)⟩, ⟨(some i27), none, .nilCheck (.t i26)⟩, ⟨(some i28), none, .fieldAddr 3 (.t i27)⟩, ⟨(some i29), none, .load none (.t i28)⟩, ⟨(some i30), none, .bin (.eq .int) (.t i29) (.c (.int .i64 (.ofNat 0)))⟩])
  (.cond (.t i30) (.region [⟨(some i31), none, .move (.t i1)⟩, ⟨(some i32), none, .nilCheck (.t i31)⟩, ⟨(some i33), none, .fieldAddr 7 (.t i32)⟩, ⟨(some i34), none, .load none (.t i33)⟩, ⟨(some i35), none, .move (.t i0)⟩, ⟨(some i36), none, .move (.t i1)⟩, ⟨(some i37), none, .callv (.t i34) [(.t i35), (.t i36)]⟩])
  .skip))))⟩
theorem tr94 : trFunc (tyIn Tryz.prog tyn) ibn Tryz.f94 = some af94 := by kernel_rfl
theorem nm94 : (Tryz.f94.name == "runtime.NumGoroutine") = false := by kernel_rfl
theorem good94 : GoodAt Tryz.prog tyn ibn i94 af94 := goodAt Tryz.func94 tr94 nm94 rfl
def af95 : AFunc := ⟨[.cell i4 (some 10)], (.seq (.region [⟨(some i4), none, .alloc [(.int .i64 (.ofNat 0)), (.int .i64 (.ofNat 0)), (.int .i64 (.ofNat 0)), (.int .i64 (.ofNat 0)), (.int .i64 (.ofNat 0)), (.int .i64 (.ofNat 0)), (.int .i64 (.ofNat 0)), (.int .i64 (.ofNat 0)), (.int .i64 (.ofNat 0)), (.int .i64 (.ofNat 0))]⟩])
  (.seq (.drawn [⟨0, .v, ⟨(some i8), none, .move (.t i0)⟩⟩, ⟨1, .v, ⟨(some i9), none, .nilCheck (.t i8)⟩⟩, ⟨2, .v, ⟨(some i10), none, .fieldAddr 12 (.t i9)⟩⟩, ⟨3, (.r 0), ⟨(some i11), none, .load none (.t i10)⟩⟩, ⟨4, .v, ⟨(some i12), none, .move (.t i1)⟩⟩, ⟨5, .v, ⟨(some i13), none, .nilCheck (.t i12)⟩⟩, ⟨6, .v, ⟨(some i14), none, .fieldAddr 9 (.t i13)⟩⟩, ⟨7, (.r 0), ⟨(some i15), none, .load none (.t i14)⟩⟩, ⟨8, .e, ⟨(some i16), none, .call i113 [(.t i11), (.t i15)]⟩⟩, ⟨9, .v, ⟨(some i7), none, .move (.t i16)⟩⟩, ⟨10, .v, ⟨(some i17), none, .extract 0 (.t i7)⟩⟩, ⟨12, .a, ⟨(some i5), none, .alloc [(.int .u8 (.ofNat 0)), (.int .i64 (.ofNat 0)), (.int .i64 (.ofNat 0)), (.int .i64 (.ofNat 0)), (.int .i64 (.ofNat 0)), (.int .i64 (.ofNat 0)), (.int .i64 (.ofNat 0)), (.int .i64 (.ofNat 0)), (.int .i64 (.ofNat 0)), (.int .i64 (.ofNat 0)), (.int .i64 (.ofNat 0))]⟩⟩, ⟨13, .e, ⟨none, none, .store (some 11) (.t i5) (.t i17)⟩⟩, ⟨11, .v, ⟨(some i18), none, .extract 1 (.t i7)⟩⟩, ⟨14, .v, ⟨(some i6), none, .move (.t i18)⟩⟩])
  (.seq (.region [⟨(some i19), none, .fieldAddr 1 (.t i5)⟩, ⟨(some i20), none, .load (some 10) (.t i19)⟩, ⟨none, none, .store (some 10) (.t i4) (.t i20)⟩])
  .ret)))⟩
theorem tr95 : trFunc (tyIn Tryz.prog tyn) ibn Tryz.f95 = some af95 := by kernel_rfl
theorem nm95 : (Tryz.f95.name == "runtime.NumGoroutine") = false := by kernel_rfl
theorem good95 : GoodAt Tryz.prog tyn ibn i95 af95 := goodAt Tryz.func95 tr95 nm95 rfl
def af96 : AFunc := ⟨[.cell i4 none], (.seq (.region [⟨(some i4), none, .alloc [(.bool false)]⟩])
  (.seq (.region [⟨(some i5), none, .move (.t i0)⟩, ⟨(some i6), none, .move (.t i1)⟩, ⟨(some i7), none, .mkfn i115 [] [(.t i4)]⟩, ⟨(some i8), none, .call i114 [(.t i5), (.t i6), (.t i7)]⟩])
  (.seq (.region [⟨(some i9), none, .load none (.t i4)⟩, ⟨none, none, .store none (.t i4) (.t i9)⟩])
  .ret)))⟩
theorem tr96 : trFunc (tyIn Tryz.prog tyn) ibn Tryz.f96 = some af96 := by kernel_rfl
theorem nm96 : (Tryz.f96.name == "runtime.NumGoroutine") = false := by kernel_rfl
theorem good96 : GoodAt Tryz.prog tyn ibn i96 af96 := goodAt Tryz.func96 tr96 nm96 rfl
def af97 : AFunc := ⟨[], (.seq (.drawn [⟨1, .v, ⟨(some i8), none, .move (.t i0)⟩⟩, ⟨2, .v, ⟨(some i9), none, .nilCheck (.t i8)⟩⟩, ⟨3, .v, ⟨(some i10), none, .fieldAddr 13 (.t i9)⟩⟩, ⟨4, (.r 0), ⟨(some i11), none, .load none (.t i10)⟩⟩, ⟨5, .v, ⟨(some i12), none, .move (.t i1)⟩⟩, ⟨6, .v, ⟨(some i13), none, .nilCheck (.t i12)⟩⟩, ⟨7, .v, ⟨(some i14), none, .fieldAddr 9 (.t i13)⟩⟩, ⟨8, (.r 0), ⟨(some i15), none, .load none (.t i14)⟩⟩, ⟨9, .e, ⟨(some i16), none, .call i116 [(.t i11), (.t i15)]⟩⟩, ⟨0, .v, ⟨(some i7), none, .move (.t i1)⟩⟩, ⟨10, .v, ⟨(some i6), none, .move (.t i16)⟩⟩, ⟨11, .v, ⟨(some i17), none, .extract 0 (.t i6)⟩⟩, ⟨13, .v, ⟨(some i19), none, .nilCheck (.t i7)⟩⟩, ⟨14, .v, ⟨(some i20), none, .fieldAddr 28 (.t i19)⟩⟩, ⟨15, .e, ⟨none, none, .store (some 4) (.t i20) (.t i17)⟩⟩, ⟨12, .v, ⟨(some i18), none, .extract 1 (.t i6)⟩⟩])
  (.seq (.drawn [⟨3, .v, ⟨(some i24), none, .move (.t i0)⟩⟩, ⟨4, .v, ⟨(some i25), none, .nilCheck (.t i24)⟩⟩, ⟨5, .v, ⟨(some i26), none, .fieldAddr 12 (.t i25)⟩⟩, ⟨6, (.r 0), ⟨(some i27), none, .load none (.t i26)⟩⟩, ⟨7, .v, ⟨(some i28), none, .move (.t i1)⟩⟩, ⟨8, .v, ⟨(some i29), none, .nilCheck (.t i28)⟩⟩, ⟨9, .v, ⟨(some i30), none, .fieldAddr 9 (.t i29)⟩⟩, ⟨10, (.r 0), ⟨(some i31), none, .load none (.t i30)⟩⟩, ⟨11, .e, ⟨(some i32), none, .call i117 [(.t i27), (.t i31)]⟩⟩, ⟨0, .v, ⟨(some i21), none, .move (.t i1)⟩⟩, ⟨12, .v, ⟨(some i33), none, .nilCheck (.t i21)⟩⟩, ⟨13, .v, ⟨(some i34), none, .fieldAddr 27 (.t i33)⟩⟩, ⟨14, .e, ⟨none, none, .store none (.t i34) (.t i32)⟩⟩, ⟨1, .v, ⟨(some i22), none, .move (.t i1)⟩⟩, ⟨15, .v, ⟨(some i35), none, .nilCheck (.t i22)⟩⟩, ⟨16, .v, ⟨(some i36), none, .fieldAddr 26 (.t i35)⟩⟩, ⟨17, .e, ⟨none, none, .store none (.t i36) (.c .nilslice)⟩⟩, ⟨2, .v, ⟨(some i23), none, .move (.t i1)⟩⟩, ⟨18, .v, ⟨(some i37), none, .nilCheck (.t i23)⟩⟩, ⟨19, .v, ⟨(some i38), none, .fieldAddr 15 (.t i37)⟩⟩, ⟨20, .e, ⟨none, none, .store none (.t i38) (.c (.int .i64 (.negSucc 0)))⟩⟩])
  (.seq (.region [⟨(some i40), none, .move (.t i0)⟩, ⟨(some i41), none, .move (.t i1)⟩, ⟨(some i42), none, .call i118 [(.t i40), (.t i41)]⟩, ⟨(some i39), none, .move (.t i42)⟩, ⟨(some i43), none, .extract 0 (.t i39)⟩, ⟨(some i44), none, .extract 1 (.t i39)⟩, ⟨(some i4), none, .alloc [(.int .u8 (.ofNat 0)), (.int .i64 (.ofNat 0)), (.int .i64 (.ofNat 0)), (.int .i64 (.ofNat 0)), (.int .i64 (.ofNat 0))]⟩, ⟨none, none, .store (some 5) (.t i4) (.t i43)⟩, ⟨(some i5), none, .move (.t i44)⟩])
  (.seq (.seq (.region [⟨(some i45), none, .fieldAddr 0 (.t i4)⟩, ⟨(some i46), none, .load none (.t i45)⟩, ⟨(some i47), none, .bin (.ne .int) (.t i46) (.c (.int .u8 (.ofNat 8)))⟩])
  (.cond (.t i47) (.seq (.region [⟨(some i48), none, .move (.t i1)⟩, ⟨(some i49), none, .nilCheck (.t i48)⟩, ⟨(some i50), none, .fieldAddr 1 (.t i49)⟩, ⟨none, none, .store none (.t i50) (.c (.fn i119 [] []))⟩])
  .ret)
  .skip))
  (.seq (.region [⟨(some i51), none, .move (.t i1)⟩, ⟨(some i52), none, .fieldAddr 4 (.t i4)⟩, ⟨(some i53), none, .load none (.t i52)⟩, ⟨(some i54), none, .nilCheck (.t i51)⟩, ⟨(some i55), none, .fieldAddr 15 (.t i54)⟩, ⟨none, none, .store none (.t i55) (.t i53)⟩])
  (.region [⟨(some i56), none, .move (.t i1)⟩, ⟨(some i57), none, .move (.t i0)⟩, ⟨(some i58), none, .move (.t i1)⟩, ⟨(some i59), none, .nilCheck (.t i58)⟩, ⟨(some i60), none, .fieldAddr 15 (.t i59)⟩, ⟨(some i61), none, .load none (.t i60)⟩, ⟨(some i62), none, .call i121 [(.t i57), (.t i61)]⟩, ⟨(some i63), none, .call i64 [(.t i56), (.c (.fn i120 [] [])), (.t i62)]⟩]))))))⟩
theorem tr97 : trFunc (tyIn Tryz.prog tyn) ibn Tryz.f97 = some af97 := by kernel_rfl
theorem nm97 : (Tryz.f97.name == "runtime.NumGoroutine") = false := by kernel_rfl
theorem good97 : GoodAt Tryz.prog tyn ibn i97 af97 := goodAt Tryz.func97 tr97 nm97 rfl
def af98 : AFunc := ⟨[], (.seq (.drawn [⟨0, .v, ⟨(some i4), none, .move (.t i0)⟩⟩, ⟨1, .v, ⟨(some i5), none, .nilCheck (.t i4)⟩⟩, ⟨2, .v, ⟨(some i6), none, .fieldAddr 0 (.t i5)⟩⟩, ⟨3, (.r 0), ⟨(some i7), none, .load none (.t i6)⟩⟩, ⟨4, .v, ⟨(some i8), none, .move (.t i1)⟩⟩, ⟨5, .v, ⟨(some i9), none, .nilCheck (.t i8)⟩⟩, ⟨6, .v, ⟨(some i10), none, .fieldAddr 9 (.t i9)⟩⟩, ⟨7, (.r 0), ⟨(some i11), none, .load none (.t i10)⟩⟩, ⟨8, .e, ⟨(some i12), none, .call i7 [(.t i7), (.t i11)]⟩⟩])
  (.seq (.region [⟨(some i13), none, .move (.t i0)⟩, ⟨(some i14), none, .move (.t i1)⟩, ⟨(some i15), none, .move (.t i1)⟩, ⟨(some i16), none, .nilCheck (.t i15)⟩, ⟨(some i17), none, .fieldAddr 9 (.t i16)⟩, ⟨(some i18), none, .load none (.t i17)⟩, ⟨(some i19), none, .call i78 [(.t i13), (.t i14), (.c (.int .u8 (.ofNat 23))), (.t i18)]⟩])
  (.region [⟨(some i20), none, .move (.t i1)⟩, ⟨(some i21), none, .call i79 [(.t i20), (.c (.fn i45 [] []))]⟩])))⟩
theorem tr98 : trFunc (tyIn Tryz.prog tyn) ibn Tryz.f98 = some af98 := by kernel_rfl
theorem nm98 : (Tryz.f98.name == "runtime.NumGoroutine") = false := by kernel_rfl
theorem good98 : GoodAt Tryz.prog tyn ibn i98 af98 := goodAt Tryz.func98 tr98 nm98 rfl
def af99 : AFunc := ⟨[.cell i4 (some 10), .tmp i5], (.seq (.region [⟨(some i2), none, .box (.t i0)⟩, ⟨(some i3), none, .box (.t i1)⟩, ⟨(some i4), none, .alloc [(.int .i64 (.ofNat 0)), (.int .i64 (.ofNat 0)), (.int .i64 (.ofNat 0)), (.int .i64 (.ofNat 0)), (.int .i64 (.ofNat 0)), (.int .i64 (.ofNat 0)), (.int .i64 (.ofNat 0)), (.int .i64 (.ofNat 0)), (.int .i64 (.ofNat 0)), (.int .i64 (.ofNat 0))]⟩, ⟨(some i5), none, .move (.c (.int .i64 (.ofNat 0)))⟩])
  (.seq (.region [⟨(some i9), none, .load (some 3) (.t i2)⟩, ⟨(some i10), none, .load (some 10) (.t i3)⟩, ⟨(some i11), none, .call i76 [(.t i9), (.t i10)]⟩, ⟨(some i8), none, .move (.t i11)⟩, ⟨(some i12), none, .extract 0 (.t i8)⟩, ⟨(some i13), none, .extract 1 (.t i8)⟩, ⟨(some i6), none, .alloc [(.int .u8 (.ofNat 0)), (.int .i64 (.ofNat 0)), (.int .i64 (.ofNat 0)), (.int .i64 (.ofNat 0)), (.int .i64 (.ofNat 0))]⟩, ⟨none, none, .store (some 5) (.t i6) (.t i12)⟩, ⟨(some i7), none, .move (.t i13)⟩])
  (.seq (.block 0 (.seq (.region [⟨(some i15), none, .move (.t i7)⟩, ⟨(some i16), none, .not (.t i15)⟩, ⟨(some i17), none, .move (.t i16)⟩, ⟨(some i18), (some (i17, false)), .fieldAddr 1 (.t i6)⟩, ⟨(some i19), (some (i17, false)), .load none (.t i18)⟩, ⟨(some i20), (some (i17, false)), .call i122 [(.t i19)]⟩, ⟨(some i21), (some (i17, false)), .not (.t i20)⟩, ⟨(some i22), none, .pick (.t i17) (.c (.bool true)) (.t i21)⟩, ⟨(some i23), none, .move (.t i22)⟩, ⟨(some i24), (some (i23, false)), .fieldAddr 2 (.t i6)⟩, ⟨(some i25), (some (i23, false)), .load none (.t i24)⟩, ⟨(some i26), (some (i23, false)), .call i122 [(.t i25)]⟩, ⟨(some i27), (some (i23, false)), .not (.t i26)⟩, ⟨(some i28), none, .pick (.t i23) (.c (.bool true)) (.t i27)⟩, ⟨(some i14), none, .move (.t i28)⟩])
  (.cond (.t i14) (.seq (.region [⟨(some i29), none, .build [(.int .i64 (.ofNat 0)), (.int .i64 (.ofNat 0)), (.int .i64 (.ofNat 0)), (.int .i64 (.ofNat 0)), (.int .i64 (.ofNat 0)), (.int .i64 (.ofNat 0)), (.int .i64 (.ofNat 0)), (.int .i64 (.ofNat 0)), (.int .i64 (.ofNat 0)), (.int .i64 (.ofNat 0))] []⟩, ⟨none, none, .store (some 10) (.t i4) (.t i29)⟩, ⟨(some i5), none, .move (.c (.int .i64 (.ofNat 2)))⟩])
  .ret)
  (.seq (.region [⟨(some i31), none, .fieldAddr 0 (.t i6)⟩, ⟨(some i32), none, .load none (.t i31)⟩, ⟨(some i33), none, .call i123 [(.t i32)]⟩, ⟨(some i34), none, .not (.t i33)⟩, ⟨(some i30), none, .move (.t i34)⟩])
  (.cond (.t i30) (.seq (.region [⟨(some i35), none, .build [(.int .i64 (.ofNat 0)), (.int .i64 (.ofNat 0)), (.int .i64 (.ofNat 0)), (.int .i64 (.ofNat 0)), (.int .i64 (.ofNat 0)), (.int .i64 (.ofNat 0)), (.int .i64 (.ofNat 0)), (.int .i64 (.ofNat 0)), (.int .i64 (.ofNat 0)), (.int .i64 (.ofNat 0))] []⟩, ⟨none, none, .store (some 10) (.t i4) (.t i35)⟩, ⟨(some i5), none, .move (.c (.int .i64 (.ofNat 8)))⟩])
  .ret)
  .skip)))))
  (.seq (.region [⟨(some i36), none, .fieldAddr 1 (.t i3)⟩, ⟨(some i37), none, .load none (.t i36)⟩, ⟨(some i38), none, .bin .add (.t i37) (.c (.int .i64 (.ofNat 1)))⟩, ⟨(some i39), none, .fieldAddr 1 (.t i3)⟩, ⟨none, none, .store none (.t i39) (.t i38)⟩])
  (.seq (.drawn [⟨0, .e, ⟨(some i40), none, .call i124 []⟩⟩, ⟨1, .v, ⟨(some i41), none, .fieldAddr 0 (.t i6)⟩⟩, ⟨2, (.r 1), ⟨(some i42), none, .load none (.t i41)⟩⟩, ⟨3, (.r 0), ⟨(some i43), none, .lookup .int (.agg [.nilfn]) false (.t i40) (.t i42)⟩⟩, ⟨4, .v, ⟨(some i44), none, .field 0 none (.t i43)⟩⟩, ⟨5, (.r 1), ⟨(some i45), none, .load (some 5) (.t i6)⟩⟩, ⟨6, .e, ⟨(some i46), none, .callv (.t i44) [(.t i3), (.t i45)]⟩⟩])
  (.seq (.region [⟨(some i47), none, .load (some 10) (.t i3)⟩, ⟨none, none, .store (some 10) (.t i4) (.t i47)⟩, ⟨(some i5), none, .move (.c (.int .i64 (.ofNat 0)))⟩])
  .ret))))))⟩
theorem tr99 : trFunc (tyIn Tryz.prog tyn) ibn Tryz.f99 = some af99 := by kernel_rfl
theorem nm99 : (Tryz.f99.name == "runtime.NumGoroutine") = false := by kernel_rfl
theorem good99 : GoodAt Tryz.prog tyn ibn i99 af99 := goodAt Tryz.func99 tr99 nm99 rfl
def af100 : AFunc := ⟨[], (.seq (.region [⟨(some i5), none, .box (.t i2)⟩])
  (.seq (.drawn [⟨0, .v, ⟨(some i9), none, .move (.t i0)⟩⟩, ⟨1, .v, ⟨(some i10), none, .nilCheck (.t i9)⟩⟩, ⟨2, .v, ⟨(some i11), none, .fieldAddr 1 (.t i10)⟩⟩, ⟨3, (.r 0), ⟨(some i12), none, .load (some 3) (.t i11)⟩⟩, ⟨4, (.r 0), ⟨(some i13), none, .load (some 10) (.t i5)⟩⟩, ⟨5, .e, ⟨(some i14), none, .call i76 [(.t i12), (.t i13)]⟩⟩, ⟨6, .v, ⟨(some i8), none, .move (.t i14)⟩⟩, ⟨7, .v, ⟨(some i15), none, .extract 0 (.t i8)⟩⟩, ⟨9, .a, ⟨(some i6), none, .alloc [(.int .u8 (.ofNat 0)), (.int .i64 (.ofNat 0)), (.int .i64 (.ofNat 0)), (.int .i64 (.ofNat 0)), (.int .i64 (.ofNat 0))]⟩⟩, ⟨10, .e, ⟨none, none, .store (some 5) (.t i6) (.t i15)⟩⟩, ⟨8, .v, ⟨(some i16), none, .extract 1 (.t i8)⟩⟩, ⟨11, .v, ⟨(some i7), none, .move (.t i16)⟩⟩])
  (.seq (.region [⟨(some i17), none, .move (.t i1)⟩, ⟨(some i18), none, .move (.t i1)⟩, ⟨(some i19), none, .move (.t i1)⟩, ⟨(some i20), none, .nilCheck (.t i17)⟩, ⟨(some i21), none, .fieldAddr 15 (.t i20)⟩, ⟨none, none, .store none (.t i21) (.c (.int .i64 (.negSucc 0)))⟩, ⟨(some i22), none, .nilCheck (.t i18)⟩, ⟨(some i23), none, .fieldAddr 26 (.t i22)⟩, ⟨none, none, .store none (.t i23) (.c .nilslice)⟩, ⟨(some i24), none, .nilCheck (.t i19)⟩, ⟨(some i25), none, .fieldAddr 27 (.t i24)⟩, ⟨none, none, .store none (.t i25) (.c .nilslice)⟩])
  (.seq (.region [⟨(some i26), none, .move (.t i1)⟩, ⟨(some i27), none, .fieldAddr 3 (.t i6)⟩, ⟨(some i28), none, .load none (.t i27)⟩, ⟨(some i29), none, .build [(.int .i64 (.ofNat 0)), (.bool false), (.int .i64 (.ofNat 0)), (.int .i64 (.ofNat 0))] [(0, 1, (.c (.int .i64 (.negSucc 0)))), (2, 1, (.t i28))]⟩, ⟨(some i30), none, .nilCheck (.t i26)⟩, ⟨(some i31), none, .fieldAddr 11 (.t i30)⟩, ⟨none, none, .store (some 4) (.t i31) (.t i29)⟩])
  (.seq (.region [⟨(some i32), none, .fieldAddr 0 (.t i6)⟩, ⟨(some i33), none, .load none (.t i32)⟩])
  (.block 0 (.seq (.seq (.region [⟨(some i38), none, .bin (.eq .int) (.t i33) (.c (.int .u8 (.ofNat 5)))⟩, ⟨(some i37), none, .move (.t i38)⟩])
  (.cond (.t i37) .skip
  (.region [⟨(some i39), none, .bin (.eq .int) (.t i33) (.c (.int .u8 (.ofNat 6)))⟩, ⟨(some i37), none, .move (.t i39)⟩])))
  (.cond (.t i37) (.seq (.seq (.region [⟨(some i40), none, .move (.t i1)⟩, ⟨(some i41), none, .fieldAddr 0 (.t i6)⟩, ⟨(some i42), none, .load none (.t i41)⟩, ⟨(some i43), none, .bin (.eq .int) (.t i42) (.c (.int .u8 (.ofNat 5)))⟩, ⟨(some i44), none, .nilCheck (.t i40)⟩, ⟨(some i45), none, .fieldAddr 11 (.t i44)⟩, ⟨(some i46), none, .fieldAddr 1 (.t i45)⟩, ⟨none, none, .store none (.t i46) (.t i43)⟩])
  (.seq (.region [⟨(some i47), none, .move (.t i1)⟩, ⟨(some i48), none, .nilCheck (.t i47)⟩, ⟨(some i49), none, .fieldAddr 11 (.t i48)⟩, ⟨(some i50), none, .fieldAddr 1 (.t i49)⟩, ⟨(some i51), none, .load none (.t i50)⟩])
  (.cond (.t i51) (.region [⟨(some i52), none, .move (.t i1)⟩, ⟨(some i53), none, .fieldAddr 1 (.t i6)⟩, ⟨(some i54), none, .load none (.t i53)⟩, ⟨(some i55), none, .fieldAddr 2 (.t i5)⟩, ⟨(some i56), none, .indexArr 8 1 (.t i55) (.t i54)⟩, ⟨(some i57), none, .load none (.t i56)⟩, ⟨(some i58), none, .nilCheck (.t i52)⟩, ⟨(some i59), none, .fieldAddr 11 (.t i58)⟩, ⟨(some i60), none, .fieldAddr 3 (.t i59)⟩, ⟨none, none, .store none (.t i60) (.t i57)⟩])
  .skip)))
  (.region [⟨(some i61), none, .move (.t i1)⟩, ⟨(some i62), none, .call i125 [(.t i61), (.c (.fn i126 [] [])), (.c (.fn i127 [] []))]⟩]))
  (.seq (.region [⟨(some i64), none, .bin (.eq .int) (.t i33) (.c (.int .u8 (.ofNat 7)))⟩, ⟨(some i63), none, .move (.t i64)⟩])
  (.cond (.t i63) (.region [⟨(some i65), none, .move (.t i1)⟩, ⟨(some i66), none, .call i125 [(.t i65), (.c (.fn i128 [] [])), (.c (.fn i129 [] []))]⟩])
  (.seq (.region [⟨(some i68), none, .bin (.eq .int) (.t i33) (.c (.int .u8 (.ofNat 8)))⟩, ⟨(some i67), none, .move (.t i68)⟩])
  (.cond (.t i67) (.region [⟨(some i69), none, .move (.t i0)⟩, ⟨(some i70), none, .move (.t i1)⟩, ⟨(some i71), none, .fieldAddr 4 (.t i6)⟩, ⟨(some i72), none, .load none (.t i71)⟩, ⟨(some i73), none, .call i131 [(.t i69), (.t i70), (.t i72)]⟩])
  (.seq (.region [⟨(some i75), none, .bin (.eq .int) (.t i33) (.c (.int .u8 (.ofNat 9)))⟩, ⟨(some i74), none, .move (.t i75)⟩])
  (.cond (.t i74) (.region [⟨(some i76), none, .move (.t i1)⟩, ⟨(some i77), none, .buildSlice [(.int .i64 (.ofNat 0))] 1 [(0, 1, (.c (.int .i64 (.ofNat 0))))]⟩, ⟨(some i78), none, .call i64 [(.t i76), (.c (.fn i132 [] [])), (.t i77)]⟩])
  (.region [⟨(some i34), none, .move (.t i1)⟩, ⟨(some i35), none, .buildSlice [(.int .i64 (.ofNat 0))] 1 [(0, 1, (.c (.int .i64 (.ofNat 0))))]⟩, ⟨(some i36), none, .call i64 [(.t i34), (.c (.fn i133 [] [])), (.t i35)]⟩])))))))))))))))⟩
theorem tr100 : trFunc (tyIn Tryz.prog tyn) ibn Tryz.f100 = some af100 := by kernel_rfl
theorem nm100 : (Tryz.f100.name == "runtime.NumGoroutine") = false := by kernel_rfl
theorem good100 : GoodAt Tryz.prog tyn ibn i100 af100 := goodAt Tryz.func100 tr100 nm100 rfl
def af101 : AFunc := ⟨[.tmp i6], (.seq (.region [⟨(some i3), none, .box (.t i0)⟩, ⟨(some i5), none, .box (.t i2)⟩, ⟨(some i6), none, .move (.c (.int .i64 (.ofNat 0)))⟩])
  (.seq (.region [⟨(some i7), none, .load none (.t i3)⟩, ⟨(some i8), none, .move (.t i1)⟩, ⟨(some i9), none, .mkfn i135 [] [(.t i5), (.t i3)]⟩, ⟨(some i10), none, .call i134 [(.t i7), (.t i8), (.t i9)]⟩, ⟨(some i6), none, .move (.t i10)⟩])
  .ret))⟩
theorem tr101 : trFunc (tyIn Tryz.prog tyn) ibn Tryz.f101 = some af101 := by kernel_rfl
theorem nm101 : (Tryz.f101.name == "runtime.NumGoroutine") = false := by kernel_rfl
theorem good101 : GoodAt Tryz.prog tyn ibn i101 af101 := goodAt Tryz.func101 tr101 nm101 rfl
def af102 : AFunc := ⟨[.tmp i4], (.seq (.region [⟨(some i2), none, .box (.t i0)⟩, ⟨(some i4), none, .move (.c (.bool false))⟩])
  (.seq (.region [⟨(some i5), none, .move (.c (.fn i136 [] []))⟩])
  (.seq (.region [⟨(some i6), none, .fieldAddr 1 (.t i2)⟩, ⟨(some i7), none, .load none (.t i6)⟩, ⟨(some i8), none, .bin .geq (.t i7) (.c (.int .i64 (.negSucc 0)))⟩, ⟨(some i9), none, .move (.t i8)⟩, ⟨(some i10), (some (i9, true)), .fieldAddr 1 (.t i2)⟩, ⟨(some i11), (some (i9, true)), .load none (.t i10)⟩, ⟨(some i12), (some (i9, true)), .move (.t i1)⟩, ⟨(some i13), (some (i9, true)), .bin .lss (.t i11) (.t i12)⟩, ⟨(some i14), none, .pick (.t i9) (.t i13) (.c (.bool false))⟩, ⟨(some i15), none, .move (.t i14)⟩, ⟨(some i16), (some (i15, true)), .move (.t i5)⟩, ⟨(some i17), (some (i15, true)), .fieldAddr 2 (.t i2)⟩, ⟨(some i18), (some (i15, true)), .load none (.t i17)⟩, ⟨(some i19), (some (i15, true)), .callv (.t i16) [(.t i18)]⟩, ⟨(some i20), none, .pick (.t i15) (.t i19) (.c (.bool false))⟩, ⟨(some i21), none, .move (.t i20)⟩, ⟨(some i22), (some (i21, true)), .move (.t i5)⟩, ⟨(some i23), (some (i21, true)), .fieldAddr 3 (.t i2)⟩, ⟨(some i24), (some (i21, true)), .load none (.t i23)⟩, ⟨(some i25), (some (i21, true)), .callv (.t i22) [(.t i24)]⟩, ⟨(some i26), none, .pick (.t i21) (.t i25) (.c (.bool false))⟩, ⟨(some i27), none, .move (.t i26)⟩, ⟨(some i28), (some (i27, true)), .fieldAddr 0 (.t i2)⟩, ⟨(some i29), (some (i27, true)), .load none (.t i28)⟩, ⟨(some i30), (some (i27, true)), .move (.t i29)⟩, ⟨(some i31), (some (i30, true)), .fieldAddr 3 (.t i2)⟩, ⟨(some i32), (some (i30, true)), .load none (.t i31)⟩, ⟨(some i33), (some (i30, true)), .bin (.ne .int) (.t i32) (.c (.int .i64 (.ofNat 0)))⟩, ⟨(some i34), (some (i27, true)), .pick (.t i30) (.t i33) (.c (.bool false))⟩, ⟨(some i35), (some (i27, true)), .not (.t i34)⟩, ⟨(some i36), none, .pick (.t i27) (.t i35) (.c (.bool false))⟩, ⟨(some i4), none, .move (.t i36)⟩])
  .ret)))⟩
theorem tr102 : trFunc (tyIn Tryz.prog tyn) ibn Tryz.f102 = some af102 := by kernel_rfl
theorem nm102 : (Tryz.f102.name == "runtime.NumGoroutine") = false := by kernel_rfl
theorem good102 : GoodAt Tryz.prog tyn ibn i102 af102 := goodAt Tryz.func102 tr102 nm102 rfl
def af103 : AFunc := ⟨[.tmp i2], (.seq (.region [⟨(some i1), none, .box (.t i0)⟩, ⟨(some i2), none, .move (.c .nilfn)⟩])
  (.seq (.region [⟨(some i3), none, .mkfn i137 [] [(.t i1)]⟩, ⟨(some i2), none, .move (.t i3)⟩])
  .ret))⟩
theorem tr103 : trFunc (tyIn Tryz.prog tyn) ibn Tryz.f103 = some af103 := by kernel_rfl
theorem nm103 : (Tryz.f103.name == "runtime.NumGoroutine") = false := by kernel_rfl
theorem good103 : GoodAt Tryz.prog tyn ibn i103 af103 := goodAt Tryz.func103 tr103 nm103 rfl
def af104 : AFunc := ⟨[.tmp i4], (.seq (.region [⟨(some i4), none, .move (.c (.int .i64 (.ofNat 0)))⟩])
  (.seq (.region [⟨(some i5), none, .move (.t i0)⟩, ⟨(some i6), none, .move (.t i1)⟩, ⟨(some i7), none, .call i138 [(.t i5), (.t i6)]⟩, ⟨(some i4), none, .move (.t i7)⟩])
  .ret))⟩
theorem tr104 : trFunc (tyIn Tryz.prog tyn) ibn Tryz.f104 = some af104 := by kernel_rfl
theorem nm104 : (Tryz.f104.name == "runtime.NumGoroutine") = false := by kernel_rfl
theorem good104 : GoodAt Tryz.prog tyn ibn i104 af104 := goodAt Tryz.func104 tr104 nm104 rfl
def af105 : AFunc := ⟨[.tmp i4], (.seq (.region [⟨(some i4), none, .move (.c (.bool false))⟩])
  (.seq (.region [⟨(some i5), none, .move (.t i0)⟩, ⟨(some i6), none, .lenStr (.t i5)⟩, ⟨(some i7), none, .move (.t i1)⟩, ⟨(some i8), none, .lenStr (.t i7)⟩, ⟨(some i9), none, .bin .geq (.t i6) (.t i8)⟩, ⟨(some i10), none, .move (.t i9)⟩, ⟨(some i11), (some (i10, true)), .move (.t i0)⟩, ⟨(some i12), (some (i10, true)), .move (.t i0)⟩, ⟨(some i13), (some (i10, true)), .lenStr (.t i12)⟩, ⟨(some i14), (some (i10, true)), .move (.t i1)⟩, ⟨(some i15), (some (i10, true)), .lenStr (.t i14)⟩, ⟨(some i16), (some (i10, true)), .bin .sub (.t i13) (.t i15)⟩, ⟨(some i17), (some (i10, true)), .sliceStr (.t i11) (some (.t i16)) none⟩, ⟨(some i18), (some (i10, true)), .move (.t i1)⟩, ⟨(some i19), (some (i10, true)), .bin (.eq .str) (.t i17) (.t i18)⟩, ⟨(some i20), none, .pick (.t i10) (.t i19) (.c (.bool false))⟩, ⟨(some i4), none, .move (.t i20)⟩])
  .ret))⟩
theorem tr105 : trFunc (tyIn Tryz.prog tyn) ibn Tryz.f105 = some af105 := by kernel_rfl
theorem nm105 : (Tryz.f105.name == "runtime.NumGoroutine") = false := by kernel_rfl
theorem good105 : GoodAt Tryz.prog tyn ibn i105 af105 := goodAt Tryz.func105 tr105 nm105 rfl
def af106 : AFunc := ⟨[], (.seq (.region [⟨(some i6), none, .move (.t i0)⟩, ⟨(some i7), none, .bin (.ne .ptr) (.t i6) (.c .nilptr)⟩, ⟨(some i8), none, .move (.t i7)⟩, ⟨(some i9), (some (i8, true)), .move (.t i1)⟩, ⟨(some i10), (some (i8, true)), .bin .geq (.t i9) (.c (.int .i64 (.ofNat 0)))⟩, ⟨(some i11), none, .pick (.t i8) (.t i10) (.c (.bool false))⟩, ⟨(some i12), none, .move (.t i11)⟩, ⟨(some i13), (some (i12, true)), .move (.t i1)⟩, ⟨(some i14), (some (i12, true)), .move (.t i0)⟩, ⟨(some i15), (some (i12, true)), .nilCheck (.t i14)⟩, ⟨(some i16), (some (i12, true)), .fieldAddr 2 (.t i15)⟩, ⟨(some i17), (some (i12, true)), .load none (.t i16)⟩, ⟨(some i18), (some (i12, true)), .bin .lss (.t i13) (.t i17)⟩, ⟨(some i19), none, .pick (.t i12) (.t i18) (.c (.bool false))⟩])
  (.cond (.t i19) (.drawn [⟨0, .v, ⟨(some i20), none, .move (.t i2)⟩⟩, ⟨1, .v, ⟨(some i21), none, .move (.t i0)⟩⟩, ⟨2, .v, ⟨(some i22), none, .nilCheck (.t i21)⟩⟩, ⟨3, .v, ⟨(some i23), none, .fieldAddr 1 (.t i22)⟩⟩, ⟨4, (.r 0), ⟨(some i24), none, .load none (.t i23)⟩⟩, ⟨5, .v, ⟨(some i25), none, .move (.t i1)⟩⟩, ⟨6, .v, ⟨(some i26), none, .bin .mul (.c (.int .i64 (.ofNat 2))) (.t i25)⟩⟩, ⟨7, .v, ⟨(some i27), none, .bin .add (.t i24) (.t i26)⟩⟩, ⟨8, .v, ⟨(some i28), none, .move (.t i0)⟩⟩, ⟨9, .v, ⟨(some i29), none, .nilCheck (.t i28)⟩⟩, ⟨10, .v, ⟨(some i30), none, .fieldAddr 1 (.t i29)⟩⟩, ⟨11, (.r 0), ⟨(some i31), none, .load none (.t i30)⟩⟩, ⟨12, .v, ⟨(some i32), none, .move (.t i1)⟩⟩, ⟨13, .v, ⟨(some i33), none, .bin .mul (.c (.int .i64 (.ofNat 2))) (.t i32)⟩⟩, ⟨14, .v, ⟨(some i34), none, .bin .add (.t i31) (.t i33)⟩⟩, ⟨15, .v, ⟨(some i35), none, .bin .add (.t i34) (.c (.int .i64 (.ofNat 1)))⟩⟩, ⟨16, .e, ⟨(some i36), none, .callv (.t i20) [(.t i27), (.t i35)]⟩⟩])
  .skip))⟩
theorem tr106 : trFunc (tyIn Tryz.prog tyn) ibn Tryz.f106 = some af106 := by kernel_rfl
theorem nm106 : (Tryz.f106.name == "runtime.NumGoroutine") = false := by kernel_rfl
theorem good106 : GoodAt Tryz.prog tyn ibn i106 af106 := goodAt Tryz.func106 tr106 nm106 rfl
def af107 : AFunc := ⟨[], (.region [⟨(some i6), none, .load none (.t i2)⟩, ⟨(some i7), none, .nilCheck (.t i6)⟩, ⟨(some i8), none, .fieldAddr 0 (.t i7)⟩, ⟨(some i9), none, .load none (.t i8)⟩, ⟨(some i10), none, .move (.t i0)⟩, ⟨(some i11), none, .call i108 [(.t i9), (.t i10), (.c (.int .u64 (.ofNat 1)))]⟩, ⟨(some i12), none, .conv .u16 (.t i11)⟩, ⟨none, none, .store none (.t i3) (.t i12)⟩])⟩
theorem tr107 : trFunc (tyIn Tryz.prog tyn) ibn Tryz.f107 = some af107 := by kernel_rfl
theorem nm107 : (Tryz.f107.name == "runtime.NumGoroutine") = false := by kernel_rfl
theorem good107 : GoodAt Tryz.prog tyn ibn i107 af107 := goodAt Tryz.func107 tr107 nm107 rfl
def af108 : AFunc := ⟨[.cell i6 none], (.seq (.region [⟨(some i5), none, .box (.t i2)⟩, ⟨(some i6), none, .alloc [(.int .u64 (.ofNat 0))]⟩])
  (.seq (.region [⟨(some i7), none, .move (.t i0)⟩, ⟨(some i8), none, .move (.t i1)⟩, ⟨(some i9), none, .mkfn i140 [] [(.t i5), (.t i6)]⟩, ⟨(some i10), none, .call i139 [(.t i7), (.t i8), (.t i9)]⟩])
  (.seq (.region [⟨(some i11), none, .load none (.t i6)⟩, ⟨none, none, .store none (.t i6) (.t i11)⟩])
  .ret)))⟩
theorem tr108 : trFunc (tyIn Tryz.prog tyn) ibn Tryz.f108 = some af108 := by kernel_rfl
theorem nm108 : (Tryz.f108.name == "runtime.NumGoroutine") = false := by kernel_rfl
theorem good108 : GoodAt Tryz.prog tyn ibn i108 af108 := goodAt Tryz.func108 tr108 nm108 rfl
def af109 : AFunc := ⟨[], (.drawn [⟨0, (.r 0), ⟨(some i7), none, .load none (.t i2)⟩⟩, ⟨1, .v, ⟨(some i8), none, .nilCheck (.t i7)⟩⟩, ⟨2, .v, ⟨(some i9), none, .fieldAddr 0 (.t i8)⟩⟩, ⟨3, (.r 0), ⟨(some i10), none, .load none (.t i9)⟩⟩, ⟨4, .v, ⟨(some i11), none, .move (.t i1)⟩⟩, ⟨5, .e, ⟨(some i12), none, .call i110 [(.t i10), (.t i11)]⟩⟩, ⟨6, .v, ⟨(some i13), none, .conv .u16 (.t i12)⟩⟩, ⟨7, (.r 1), ⟨(some i14), none, .load none (.t i3)⟩⟩, ⟨8, .v, ⟨(some i15), none, .bin (.eq .int) (.t i13) (.t i14)⟩⟩, ⟨9, .e, ⟨none, none, .store none (.t i4) (.t i15)⟩⟩])⟩
theorem tr109 : trFunc (tyIn Tryz.prog tyn) ibn Tryz.f109 = some af109 := by kernel_rfl
theorem nm109 : (Tryz.f109.name == "runtime.NumGoroutine") = false := by kernel_rfl
theorem good109 : GoodAt Tryz.prog tyn ibn i109 af109 := goodAt Tryz.func109 tr109 nm109 rfl
def af110 : AFunc := ⟨[.cell i4 none], (.seq (.region [⟨(some i4), none, .alloc [(.int .u64 (.ofNat 0))]⟩])
  (.seq (.region [⟨(some i5), none, .move (.t i0)⟩, ⟨(some i6), none, .move (.t i1)⟩, ⟨(some i7), none, .mkfn i141 [] [(.t i4)]⟩, ⟨(some i8), none, .call i139 [(.t i5), (.t i6), (.t i7)]⟩])
  (.seq (.region [⟨(some i9), none, .load none (.t i4)⟩, ⟨none, none, .store none (.t i4) (.t i9)⟩])
  .ret)))⟩
theorem tr110 : trFunc (tyIn Tryz.prog tyn) ibn Tryz.f110 = some af110 := by kernel_rfl
theorem nm110 : (Tryz.f110.name == "runtime.NumGoroutine") = false := by kernel_rfl
theorem good110 : GoodAt Tryz.prog tyn ibn i110 af110 := goodAt Tryz.func110 tr110 nm110 rfl
def af111 : AFunc := ⟨[.tmp i4], (.seq (.region [⟨(some i3), none, .box (.t i1)⟩, ⟨(some i4), none, .move (.c (.int .i64 (.ofNat 0)))⟩])
  (.seq (.block 0 (.seq (.region [⟨(some i6), none, .move (.t i0)⟩, ⟨(some i7), none, .bin (.eq .ptr) (.t i6) (.c .nilptr)⟩, ⟨(some i5), none, .move (.t i7)⟩])
  (.cond (.t i5) (.seq (.region [⟨(some i4), none, .move (.c (.int .i64 (.ofNat 1)))⟩])
  .ret)
  (.seq (.seq (.region [⟨(some i9), none, .load (some 13) (.t i3)⟩, ⟨(some i10), none, .call i142 [(.t i9)]⟩, ⟨(some i11), none, .bin (.ne .int) (.t i10) (.c (.int .i64 (.ofNat 0)))⟩, ⟨(some i8), none, .move (.t i11)⟩])
  (.cond (.t i8) .skip
  (.drawn [⟨2, .v, ⟨(some i14), none, .move (.t i0)⟩⟩, ⟨3, .e, ⟨(some i15), none, .call i143 [(.t i14)]⟩⟩, ⟨0, .v, ⟨(some i12), none, .fieldAddr 0 (.t i3)⟩⟩, ⟨1, (.r 1), ⟨(some i13), none, .load none (.t i12)⟩⟩, ⟨4, .v, ⟨(some i16), none, .bin .lss (.t i13) (.t i15)⟩⟩, ⟨5, .v, ⟨(some i8), none, .move (.t i16)⟩⟩])))
  (.cond (.t i8) (.seq (.region [⟨(some i4), none, .move (.c (.int .i64 (.ofNat 2)))⟩])
  .ret)
  (.seq (.region [⟨(some i18), none, .move (.t i0)⟩, ⟨(some i19), none, .call i144 [(.t i18)]⟩, ⟨(some i17), none, .move (.t i19)⟩])
  (.cond (.t i17) (.seq (.region [⟨(some i4), none, .move (.c (.int .i64 (.ofNat 6)))⟩])
  .ret)
  .skip)))))))
  (.seq (.drawn [⟨1, .v, ⟨(some i21), none, .move (.t i0)⟩⟩, ⟨2, .v, ⟨(some i22), none, .nilCheck (.t i21)⟩⟩, ⟨3, .v, ⟨(some i23), none, .fieldAddr 0 (.t i22)⟩⟩, ⟨4, (.r 0), ⟨(some i24), none, .load none (.t i23)⟩⟩, ⟨5, (.r 0), ⟨(some i25), none, .load (some 13) (.t i3)⟩⟩, ⟨6, .a, ⟨(some i26), none, .buildSlice [(.int .i64 (.ofNat 0)), (.int .u8 (.ofNat 0)), (.int .i64 (.ofNat 0)), (.int .i64 (.ofNat 0)), (.int .i64 (.ofNat 0)), (.int .i64 (.ofNat 0)), (.int .i64 (.ofNat 0)), (.int .i64 (.ofNat 0)), (.int .i64 (.ofNat 0)), (.int .i64 (.ofNat 0)), (.bool false), (.int .i64 (.ofNat 0)), (.int .u64 (.ofNat 0))] 1 [(0, 13, (.t i25))]⟩⟩, ⟨7, .e, ⟨(some i27), none, .append 13 (.t i24) (.t i26)⟩⟩, ⟨0, .v, ⟨(some i20), none, .move (.t i0)⟩⟩, ⟨8, .v, ⟨(some i28), none, .nilCheck (.t i20)⟩⟩, ⟨9, .v, ⟨(some i29), none, .fieldAddr 0 (.t i28)⟩⟩, ⟨10, .e, ⟨none, none, .store none (.t i29) (.t i27)⟩⟩])
  (.seq (.region [⟨(some i4), none, .move (.c (.int .i64 (.ofNat 0)))⟩])
  .ret))))⟩
theorem tr111 : trFunc (tyIn Tryz.prog tyn) ibn Tryz.f111 = some af111 := by kernel_rfl
theorem nm111 : (Tryz.f111.name == "runtime.NumGoroutine") = false := by kernel_rfl
theorem good111 : GoodAt Tryz.prog tyn ibn i111 af111 := goodAt Tryz.func111 tr111 nm111 rfl
def af112 : AFunc := ⟨[], (.seq (.region [⟨(some i2), none, .box (.t i0)⟩])
  (.region [⟨(some i4), none, .load none (.t i2)⟩, ⟨(some i5), none, .move (.t i1)⟩, ⟨(some i6), none, .mkfn i145 [] [(.t i2)]⟩, ⟨(some i7), none, .call i106 [(.t i4), (.t i5), (.t i6)]⟩]))⟩
theorem tr112 : trFunc (tyIn Tryz.prog tyn) ibn Tryz.f112 = some af112 := by kernel_rfl
theorem nm112 : (Tryz.f112.name == "runtime.NumGoroutine") = false := by kernel_rfl
theorem good112 : GoodAt Tryz.prog tyn ibn i112 af112 := goodAt Tryz.func112 tr112 nm112 rfl
def af113 : AFunc := ⟨[.cell i4 (some 11), .tmp i5], (.seq (.region [⟨(some i4), none, .alloc [(.int .u8 (.ofNat 0)), (.int .i64 (.ofNat 0)), (.int .i64 (.ofNat 0)), (.int .i64 (.ofNat 0)), (.int .i64 (.ofNat 0)), (.int .i64 (.ofNat 0)), (.int .i64 (.ofNat 0)), (.int .i64 (.ofNat 0)), (.int .i64 (.ofNat 0)), (.int .i64 (.ofNat 0)), (.int .i64 (.ofNat 0))]⟩, ⟨(some i5), none, .move (.c (.bool false))⟩])
  (.seq (.region [⟨(some i7), none, .move (.t i0)⟩, ⟨(some i8), none, .move (.t i1)⟩, ⟨(some i9), none, .mkfn i146 [] [(.t i4)]⟩, ⟨(some i10), none, .call i134 [(.t i7), (.t i8), (.t i9)]⟩, ⟨(some i6), none, .move (.t i10)⟩])
  (.seq (.region [⟨(some i11), none, .load (some 11) (.t i4)⟩, ⟨(some i12), none, .move (.t i6)⟩, ⟨(some i13), none, .bin (.eq .int) (.t i12) (.c (.int .i64 (.ofNat 0)))⟩, ⟨none, none, .store (some 11) (.t i4) (.t i11)⟩, ⟨(some i5), none, .move (.t i13)⟩])
  .ret)))⟩
theorem tr113 : trFunc (tyIn Tryz.prog tyn) ibn Tryz.f113 = some af113 := by kernel_rfl
theorem nm113 : (Tryz.f113.name == "runtime.NumGoroutine") = false := by kernel_rfl
theorem good113 : GoodAt Tryz.prog tyn ibn i113 af113 := goodAt Tryz.func113 tr113 nm113 rfl
def af114 : AFunc := ⟨[.tmp i6], (.seq (.region [⟨(some i6), none, .move (.c (.int .i64 (.ofNat 0)))⟩])
  (.seq (.block 0 (.seq (.region [⟨(some i8), none, .move (.t i0)⟩, ⟨(some i9), none, .bin (.eq .ptr) (.t i8) (.c .nilptr)⟩, ⟨(some i7), none, .move (.t i9)⟩])
  (.cond (.t i7) (.seq (.region [⟨(some i6), none, .move (.c (.int .i64 (.ofNat 1)))⟩])
  .ret)
  (.seq (.region [⟨(some i11), none, .move (.t i1)⟩, ⟨(some i12), none, .bin .lss (.t i11) (.c (.int .i64 (.ofNat 0)))⟩, ⟨(some i13), none, .move (.t i12)⟩, ⟨(some i14), (some (i13, false)), .move (.t i1)⟩, ⟨(some i15), (some (i13, false)), .bin .geq (.t i14) (.c (.int .i64 (.ofNat 32)))⟩, ⟨(some i16), none, .pick (.t i13) (.c (.bool true)) (.t i15)⟩, ⟨(some i10), none, .move (.t i16)⟩])
  (.cond (.t i10) (.seq (.region [⟨(some i6), none, .move (.c (.int .i64 (.ofNat 2)))⟩])
  .ret)
  .skip)))))
  (.seq (.region [⟨(some i17), none, .move (.t i2)⟩, ⟨(some i18), none, .move (.t i0)⟩, ⟨(some i19), none, .move (.t i1)⟩, ⟨(some i20), none, .nilCheck (.t i18)⟩, ⟨(some i21), none, .fieldAddr 0 (.t i20)⟩, ⟨(some i22), none, .indexArr 32 2 (.t i21) (.t i19)⟩, ⟨(some i23), none, .callv (.t i17) [(.t i22)]⟩, ⟨(some i6), none, .move (.t i23)⟩])
  .ret)))⟩
theorem tr114 : trFunc (tyIn Tryz.prog tyn) ibn Tryz.f114 = some af114 := by kernel_rfl
theorem nm114 : (Tryz.f114.name == "runtime.NumGoroutine") = false := by kernel_rfl
theorem good114 : GoodAt Tryz.prog tyn ibn i114 af114 := goodAt Tryz.func114 tr114 nm114 rfl
def af115 : AFunc := ⟨[.tmp i3], (.seq (.region [⟨(some i3), none, .move (.c (.int .i64 (.ofNat 0)))⟩])
  (.seq (.region [⟨(some i4), none, .move (.t i0)⟩, ⟨(some i5), none, .nilCheck (.t i4)⟩, ⟨(some i6), none, .fieldAddr 1 (.t i5)⟩, ⟨(some i7), none, .load none (.t i6)⟩, ⟨(some i8), none, .bin (.ne .ptr) (.t i7) (.c .nilptr)⟩, ⟨none, none, .store none (.t i1) (.t i8)⟩])
  (.seq (.region [⟨(some i3), none, .move (.c (.int .i64 (.ofNat 0)))⟩])
  .ret)))⟩
theorem tr115 : trFunc (tyIn Tryz.prog tyn) ibn Tryz.f115 = some af115 := by kernel_rfl
theorem nm115 : (Tryz.f115.name == "runtime.NumGoroutine") = false := by kernel_rfl
theorem good115 : GoodAt Tryz.prog tyn ibn i115 af115 := goodAt Tryz.func115 tr115 nm115 rfl
def af116 : AFunc := ⟨[.cell i4 (some 4), .tmp i5], (.seq (.region [⟨(some i4), none, .alloc [(.int .i64 (.ofNat 0)), (.int .i64 (.ofNat 0)), (.bool false), (.int .i64 (.ofNat 0))]⟩, ⟨(some i5), none, .move (.c (.int .i64 (.ofNat 0)))⟩])
  (.seq (.region [⟨(some i6), none, .move (.t i0)⟩, ⟨(some i7), none, .move (.t i1)⟩, ⟨(some i8), none, .mkfn i147 [] [(.t i4)]⟩, ⟨(some i9), none, .call i114 [(.t i6), (.t i7), (.t i8)]⟩, ⟨(some i5), none, .move (.t i9)⟩])
  (.seq (.region [⟨(some i10), none, .load (some 4) (.t i4)⟩, ⟨(some i11), none, .move (.t i5)⟩, ⟨none, none, .store (some 4) (.t i4) (.t i10)⟩, ⟨(some i5), none, .move (.t i11)⟩])
  .ret)))⟩
theorem tr116 : trFunc (tyIn Tryz.prog tyn) ibn Tryz.f116 = some af116 := by kernel_rfl
theorem nm116 : (Tryz.f116.name == "runtime.NumGoroutine") = false := by kernel_rfl
theorem good116 : GoodAt Tryz.prog tyn ibn i116 af116 := goodAt Tryz.func116 tr116 nm116 rfl
def af117 : AFunc := ⟨[.cell i4 none], (.seq (.region [⟨(some i4), none, .alloc [.nilslice]⟩])
  (.seq (.region [⟨(some i5), none, .move (.t i0)⟩, ⟨(some i6), none, .move (.t i1)⟩, ⟨(some i7), none, .mkfn i148 [] [(.t i4)]⟩, ⟨(some i8), none, .call i134 [(.t i5), (.t i6), (.t i7)]⟩])
  (.seq (.region [⟨(some i9), none, .load none (.t i4)⟩, ⟨none, none, .store none (.t i4) (.t i9)⟩])
  .ret)))⟩
theorem tr117 : trFunc (tyIn Tryz.prog tyn) ibn Tryz.f117 = some af117 := by kernel_rfl
theorem nm117 : (Tryz.f117.name == "runtime.NumGoroutine") = false := by kernel_rfl
theorem good117 : GoodAt Tryz.prog tyn ibn i117 af117 := goodAt Tryz.func117 tr117 nm117 rfl
def af118 : AFunc := ⟨[.cell i4 (some 5), .tmp i5], (.seq (.region [⟨(some i4), none, .alloc [(.int .u8 (.ofNat 0)), (.int .i64 (.ofNat 0)), (.int .i64 (.ofNat 0)), (.int .i64 (.ofNat 0)), (.int .i64 (.ofNat 0))]⟩, ⟨(some i5), none, .move (.c (.bool false))⟩])
  (.seq (.drawn [⟨4, .v, ⟨(some i10), none, .move (.t i0)⟩⟩, ⟨5, .v, ⟨(some i11), none, .move (.t i1)⟩⟩, ⟨6, .e, ⟨(some i12), none, .call i95 [(.t i10), (.t i11)]⟩⟩, ⟨0, .v, ⟨(some i6), none, .move (.t i0)⟩⟩, ⟨1, .v, ⟨(some i7), none, .nilCheck (.t i6)⟩⟩, ⟨2, .v, ⟨(some i8), none, .fieldAddr 1 (.t i7)⟩⟩, ⟨3, (.r 1), ⟨(some i9), none, .load (some 3) (.t i8)⟩⟩, ⟨7, .e, ⟨(some i13), none, .call i76 [(.t i9), (.t i12)]⟩⟩, ⟨8, .v, ⟨(some i14), none, .extract 0 (.t i13)⟩⟩, ⟨9, .v, ⟨(some i15), none, .extract 1 (.t i13)⟩⟩, ⟨10, .e, ⟨none, none, .store (some 5) (.t i4) (.t i14)⟩⟩, ⟨11, .v, ⟨(some i5), none, .move (.t i15)⟩⟩])
  .ret))⟩
theorem tr118 : trFunc (tyIn Tryz.prog tyn) ibn Tryz.f118 = some af118 := by kernel_rfl
theorem nm118 : (Tryz.f118.name == "runtime.NumGoroutine") = false := by kernel_rfl
theorem good118 : GoodAt Tryz.prog tyn ibn i118 af118 := goodAt Tryz.func118 tr118 nm118 rfl
def af119 : AFunc := ⟨[], (.seq (.drawn [⟨0, .v, ⟨(some i4), none, .move (.t i0)⟩⟩, ⟨1, .v, ⟨(some i5), none, .nilCheck (.t i4)⟩⟩, ⟨2, .v, ⟨(some i6), none, .fieldAddr 11 (.t i5)⟩⟩, ⟨3, (.r 0), ⟨(some i7), none, .load none (.t i6)⟩⟩, ⟨4, .v, ⟨(some i8), none, .move (.t i1)⟩⟩, ⟨5, .v, ⟨(some i9), none, .nilCheck (.t i8)⟩⟩, ⟨6, .v, ⟨(some i10), none, .fieldAddr 27 (.t i9)⟩⟩, ⟨7, (.r 0), ⟨(some i11), none, .load none (.t i10)⟩⟩, ⟨8, .v, ⟨(some i12), none, .indexSl 1 (.t i11) (.c (.int .i64 (.ofNat 0)))⟩⟩, ⟨9, (.r 0), ⟨(some i13), none, .load none (.t i12)⟩⟩, ⟨10, .e, ⟨(some i14), none, .call i149 [(.t i7), (.t i13)]⟩⟩])
  (.seq (.region [⟨(some i15), none, .move (.t i1)⟩, ⟨(some i16), none, .move (.t i1)⟩, ⟨(some i17), none, .nilCheck (.t i16)⟩, ⟨(some i18), none, .fieldAddr 27 (.t i17)⟩, ⟨(some i19), none, .load none (.t i18)⟩, ⟨(some i20), none, .sliceSl 1 (.t i19) (some (.c (.int .i64 (.ofNat 1)))) none none⟩, ⟨(some i21), none, .nilCheck (.t i15)⟩, ⟨(some i22), none, .fieldAddr 27 (.t i21)⟩, ⟨none, none, .store none (.t i22) (.t i20)⟩])
  (.seq (.region [⟨(some i23), none, .move (.t i1)⟩, ⟨(some i24), none, .nilCheck (.t i23)⟩, ⟨(some i25), none, .fieldAddr 27 (.t i24)⟩, ⟨(some i26), none, .load none (.t i25)⟩, ⟨(some i27), none, .lenSl (.t i26)⟩, ⟨(some i28), none, .bin (.eq .int) (.t i27) (.c (.int .i64 (.ofNat 0)))⟩])
  (.cond (.t i28) (.region [⟨(some i29), none, .move (.t i1)⟩, ⟨(some i30), none, .nilCheck (.t i29)⟩, ⟨(some i31), none, .fieldAddr 1 (.t i30)⟩, ⟨none, none, .store none (.t i31) (.c (.fn i150 [] []))⟩])
  .skip))))⟩
theorem tr119 : trFunc (tyIn Tryz.prog tyn) ibn Tryz.f119 = some af119 := by kernel_rfl
theorem nm119 : (Tryz.f119.name == "runtime.NumGoroutine") = false := by kernel_rfl
theorem good119 : GoodAt Tryz.prog tyn ibn i119 af119 := goodAt Tryz.func119 tr119 nm119 rfl
def af120 : AFunc := ⟨[], (.seq (.drawn [⟨0, .v, ⟨(some i8), none, .move (.t i0)⟩⟩, ⟨1, .v, ⟨(some i9), none, .nilCheck (.t i8)⟩⟩, ⟨2, .v, ⟨(some i10), none, .fieldAddr 11 (.t i9)⟩⟩, ⟨3, (.r 0), ⟨(some i11), none, .load none (.t i10)⟩⟩, ⟨4, .v, ⟨(some i12), none, .move (.t i1)⟩⟩, ⟨5, .v, ⟨(some i13), none, .nilCheck (.t i12)⟩⟩, ⟨6, .v, ⟨(some i14), none, .fieldAddr 27 (.t i13)⟩⟩, ⟨7, (.r 0), ⟨(some i15), none, .load none (.t i14)⟩⟩, ⟨8, .v, ⟨(some i16), none, .indexSl 1 (.t i15) (.c (.int .i64 (.ofNat 0)))⟩⟩, ⟨9, (.r 0), ⟨(some i17), none, .load none (.t i16)⟩⟩, ⟨10, .e, ⟨(some i18), none, .call i151 [(.t i11), (.t i17)]⟩⟩, ⟨11, .v, ⟨(some i7), none, .move (.t i18)⟩⟩, ⟨12, .v, ⟨(some i19), none, .extract 0 (.t i7)⟩⟩, ⟨14, .a, ⟨(some i4), none, .alloc [(.int .i64 (.ofNat 0)), (.int .i64 (.ofNat 0)), (.bool false), (.int .i64 (.ofNat 0)), (.int .u64 (.ofNat 0))]⟩⟩, ⟨15, .e, ⟨none, none, .store (some 5) (.t i4) (.t i19)⟩⟩, ⟨13, .v, ⟨(some i20), none, .extract 1 (.t i7)⟩⟩, ⟨16, .v, ⟨(some i5), none, .move (.t i20)⟩⟩])
  (.seq (.drawn [⟨0, .v, ⟨(some i21), none, .move (.t i0)⟩⟩, ⟨1, .v, ⟨(some i22), none, .nilCheck (.t i21)⟩⟩, ⟨2, .v, ⟨(some i23), none, .fieldAddr 10 (.t i22)⟩⟩, ⟨3, (.r 0), ⟨(some i24), none, .load none (.t i23)⟩⟩, ⟨4, .v, ⟨(some i25), none, .move (.t i0)⟩⟩, ⟨5, .v, ⟨(some i26), none, .nilCheck (.t i25)⟩⟩, ⟨6, .v, ⟨(some i27), none, .fieldAddr 1 (.t i26)⟩⟩, ⟨7, .v, ⟨(some i28), none, .fieldAddr 2 (.t i27)⟩⟩, ⟨8, (.r 0), ⟨(some i29), none, .load none (.t i28)⟩⟩, ⟨9, .v, ⟨(some i30), none, .move (.t i1)⟩⟩, ⟨10, .v, ⟨(some i31), none, .nilCheck (.t i30)⟩⟩, ⟨11, .v, ⟨(some i32), none, .fieldAddr 15 (.t i31)⟩⟩, ⟨12, (.r 0), ⟨(some i33), none, .load none (.t i32)⟩⟩, ⟨13, .v, ⟨(some i34), none, .indexSl 2 (.t i29) (.t i33)⟩⟩, ⟨14, .v, ⟨(some i35), none, .fieldAddr 0 (.t i34)⟩⟩, ⟨15, (.r 0), ⟨(some i36), none, .load none (.t i35)⟩⟩, ⟨16, .v, ⟨(some i37), none, .fieldAddr 1 (.t i4)⟩⟩, ⟨17, (.r 0), ⟨(some i38), none, .load none (.t i37)⟩⟩, ⟨18, .v, ⟨(some i39), none, .indexSl 4 (.t i36) (.t i38)⟩⟩, ⟨19, .v, ⟨(some i40), none, .fieldAddr 1 (.t i39)⟩⟩, ⟨20, (.r 0), ⟨(some i41), none, .load none (.t i40)⟩⟩, ⟨21, .v, ⟨(some i42), none, .indexSl 1 (.t i24) (.t i41)⟩⟩, ⟨22, (.r 0), ⟨(some i43), none, .load none (.t i42)⟩⟩, ⟨23, .v, ⟨(some i6), none, .move (.t i43)⟩⟩])
  (.seq (.seq (.drawn [⟨0, .v, ⟨(some i44), none, .move (.t i6)⟩⟩, ⟨1, .v, ⟨(some i45), none, .fieldAddr 2 (.t i4)⟩⟩, ⟨2, (.r 0), ⟨(some i46), none, .load none (.t i45)⟩⟩, ⟨3, .v, ⟨(some i47), none, .move (.t i1)⟩⟩, ⟨4, .v, ⟨(some i48), none, .nilCheck (.t i47)⟩⟩, ⟨5, .v, ⟨(some i49), none, .fieldAddr 27 (.t i48)⟩⟩, ⟨6, (.r 0), ⟨(some i50), none, .load none (.t i49)⟩⟩, ⟨7, .v, ⟨(some i51), none, .indexSl 1 (.t i50) (.c (.int .i64 (.ofNat 0)))⟩⟩, ⟨8, (.r 0), ⟨(some i52), none, .load none (.t i51)⟩⟩, ⟨9, .e, ⟨(some i53), none, .call i152 [(.t i44), (.t i46), (.t i52)]⟩⟩])
  (.cond (.t i53) (.drawn [⟨0, .v, ⟨(some i54), none, .move (.t i6)⟩⟩, ⟨1, .v, ⟨(some i55), none, .fieldAddr 2 (.t i4)⟩⟩, ⟨2, (.r 0), ⟨(some i56), none, .load none (.t i55)⟩⟩, ⟨3, .v, ⟨(some i57), none, .move (.t i1)⟩⟩, ⟨4, .v, ⟨(some i58), none, .nilCheck (.t i57)⟩⟩, ⟨5, .v, ⟨(some i59), none, .fieldAddr 27 (.t i58)⟩⟩, ⟨6, (.r 0), ⟨(some i60), none, .load none (.t i59)⟩⟩, ⟨7, .v, ⟨(some i61), none, .indexSl 1 (.t i60) (.c (.int .i64 (.ofNat 0)))⟩⟩, ⟨8, (.r 0), ⟨(some i62), none, .load none (.t i61)⟩⟩, ⟨9, .e, ⟨(some i63), none, .call i153 [(.t i54), (.t i56), (.t i62)]⟩⟩])
  .skip))
  (.seq (.drawn [⟨0, .v, ⟨(some i64), none, .move (.t i0)⟩⟩, ⟨1, .v, ⟨(some i65), none, .nilCheck (.t i64)⟩⟩, ⟨2, .v, ⟨(some i66), none, .fieldAddr 11 (.t i65)⟩⟩, ⟨3, (.r 0), ⟨(some i67), none, .load none (.t i66)⟩⟩, ⟨4, .v, ⟨(some i68), none, .move (.t i1)⟩⟩, ⟨5, .v, ⟨(some i69), none, .nilCheck (.t i68)⟩⟩, ⟨6, .v, ⟨(some i70), none, .fieldAddr 27 (.t i69)⟩⟩, ⟨7, (.r 0), ⟨(some i71), none, .load none (.t i70)⟩⟩, ⟨8, .v, ⟨(some i72), none, .indexSl 1 (.t i71) (.c (.int .i64 (.ofNat 0)))⟩⟩, ⟨9, (.r 0), ⟨(some i73), none, .load none (.t i72)⟩⟩, ⟨10, .e, ⟨(some i74), none, .call i149 [(.t i67), (.t i73)]⟩⟩])
  (.seq (.region [⟨(some i75), none, .move (.t i1)⟩, ⟨(some i76), none, .move (.t i1)⟩, ⟨(some i77), none, .nilCheck (.t i76)⟩, ⟨(some i78), none, .fieldAddr 27 (.t i77)⟩, ⟨(some i79), none, .load none (.t i78)⟩, ⟨(some i80), none, .sliceSl 1 (.t i79) (some (.c (.int .i64 (.ofNat 1)))) none none⟩, ⟨(some i81), none, .nilCheck (.t i75)⟩, ⟨(some i82), none, .fieldAddr 27 (.t i81)⟩, ⟨none, none, .store none (.t i82) (.t i80)⟩])
  (.seq (.region [⟨(some i83), none, .move (.t i1)⟩, ⟨(some i84), none, .nilCheck (.t i83)⟩, ⟨(some i85), none, .fieldAddr 27 (.t i84)⟩, ⟨(some i86), none, .load none (.t i85)⟩, ⟨(some i87), none, .lenSl (.t i86)⟩, ⟨(some i88), none, .bin (.eq .int) (.t i87) (.c (.int .i64 (.ofNat 0)))⟩])
  (.cond (.t i88) (.region [⟨(some i89), none, .move (.t i1)⟩, ⟨(some i90), none, .call i79 [(.t i89), (.c (.fn i154 [] []))]⟩])
  .skip)))))))⟩
theorem tr120 : trFunc (tyIn Tryz.prog tyn) ibn Tryz.f120 = some af120 := by kernel_rfl
theorem nm120 : (Tryz.f120.name == "runtime.NumGoroutine") = false := by kernel_rfl
theorem good120 : GoodAt Tryz.prog tyn ibn i120 af120 := goodAt Tryz.func120 tr120 nm120 rfl
def af121 : AFunc := ⟨[.tmp i4], (.seq (.region [⟨(some i4), none, .move (.c .nilslice)⟩])
  (.seq (.seq (.region [⟨(some i7), none, .move (.t i0)⟩, ⟨(some i8), none, .nilCheck (.t i7)⟩, ⟨(some i9), none, .fieldAddr 1 (.t i8)⟩, ⟨(some i10), none, .fieldAddr 2 (.t i9)⟩, ⟨(some i11), none, .load none (.t i10)⟩, ⟨(some i12), none, .move (.t i1)⟩, ⟨(some i13), none, .indexSl 2 (.t i11) (.t i12)⟩, ⟨(some i14), none, .load (some 2) (.t i13)⟩, ⟨(some i15), none, .call i155 [(.t i14)]⟩, ⟨(some i16), none, .lenSl (.t i15)⟩, ⟨(some i17), none, .move (.c (.int .i64 (.ofNat 0)))⟩])
  (.block 0 (.loop (.seq (.region [⟨(some i18), none, .bin .lss (.t i17) (.t i16)⟩])
  (.seq (.cond (.t i18) .skip
  (.exit 0))
  (.seq (.block 1 (.seq (.region [⟨(some i19), none, .indexSl 1 (.t i15) (.t i17)⟩, ⟨(some i20), none, .load none (.t i19)⟩, ⟨(some i6), none, .move (.t i20)⟩])
  (.region [⟨(some i21), none, .move (.t i4)⟩, ⟨(some i22), none, .move (.t i6)⟩, ⟨(some i23), none, .bin .add (.t i22) (.c (.int .i64 (.ofNat 1)))⟩, ⟨(some i24), none, .buildSlice [(.int .i64 (.ofNat 0))] 1 [(0, 1, (.t i23))]⟩, ⟨(some i25), none, .append 1 (.t i21) (.t i24)⟩, ⟨(some i4), none, .move (.t i25)⟩])))
  (.region [⟨(some i26), none, .bin .add (.t i17) (.c (.int .i64 (.ofNat 1)))⟩, ⟨(some i17), none, .move (.t i26)⟩])))))))
  (.seq (.region [⟨(some i27), none, .move (.t i4)⟩, ⟨(some i4), none, .move (.t i27)⟩])
  .ret)))⟩
theorem tr121 : trFunc (tyIn Tryz.prog tyn) ibn Tryz.f121 = some af121 := by kernel_rfl
theorem nm121 : (Tryz.f121.name == "runtime.NumGoroutine") = false := by kernel_rfl
theorem good121 : GoodAt Tryz.prog tyn ibn i121 af121 := goodAt Tryz.func121 tr121 nm121 rfl
def af122 : AFunc := ⟨[.tmp i2], (.seq (.region [⟨(some i2), none, .move (.c (.bool false))⟩])
  (.seq (.region [⟨(some i3), none, .move (.t i0)⟩, ⟨(some i4), none, .bin .geq (.t i3) (.c (.int .i64 (.ofNat 0)))⟩, ⟨(some i5), none, .move (.t i4)⟩, ⟨(some i6), (some (i5, true)), .move (.t i0)⟩, ⟨(some i7), (some (i5, true)), .bin .lss (.t i6) (.c (.int .i64 (.ofNat 8)))⟩, ⟨(some i8), none, .pick (.t i5) (.t i7) (.c (.bool false))⟩, ⟨(some i2), none, .move (.t i8)⟩])
  .ret))⟩
theorem tr122 : trFunc (tyIn Tryz.prog tyn) ibn Tryz.f122 = some af122 := by kernel_rfl
theorem nm122 : (Tryz.f122.name == "runtime.NumGoroutine") = false := by kernel_rfl
theorem good122 : GoodAt Tryz.prog tyn ibn i122 af122 := goodAt Tryz.func122 tr122 nm122 rfl
def af123 : AFunc := ⟨[.tmp i2], (.seq (.region [⟨(some i2), none, .move (.c (.bool false))⟩])
  (.seq (.region [⟨(some i3), none, .move (.t i0)⟩, ⟨(some i4), none, .bin .geq (.t i3) (.c (.int .u8 (.ofNat 1)))⟩, ⟨(some i5), none, .move (.t i4)⟩, ⟨(some i6), (some (i5, true)), .move (.t i0)⟩, ⟨(some i7), (some (i5, true)), .bin .leq (.t i6) (.c (.int .u8 (.ofNat 4)))⟩, ⟨(some i8), none, .pick (.t i5) (.t i7) (.c (.bool false))⟩, ⟨(some i2), none, .move (.t i8)⟩])
  .ret))⟩
theorem tr123 : trFunc (tyIn Tryz.prog tyn) ibn Tryz.f123 = some af123 := by kernel_rfl
theorem nm123 : (Tryz.f123.name == "runtime.NumGoroutine") = false := by kernel_rfl
theorem good123 : GoodAt Tryz.prog tyn ibn i123 af123 := goodAt Tryz.func123 tr123 nm123 rfl
def af124 : AFunc := ⟨[.tmp i0], (.seq (.region [⟨(some i0), none, .move (.c .nilmap)⟩])
  (.seq (.region [⟨(some i1), none, .mkmap .int⟩, ⟨(some i2), none, .build [.nilfn] [(0, 1, (.c (.fn i156 [] [])))]⟩, ⟨none, none, .insert .int (.t i1) (.c (.int .u8 (.ofNat 1))) (.t i2)⟩, ⟨(some i3), none, .build [.nilfn] [(0, 1, (.c (.fn i157 [] [])))]⟩, ⟨none, none, .insert .int (.t i1) (.c (.int .u8 (.ofNat 2))) (.t i3)⟩, ⟨(some i4), none, .build [.nilfn] [(0, 1, (.c (.fn i158 [] [])))]⟩, ⟨none, none, .insert .int (.t i1) (.c (.int .u8 (.ofNat 3))) (.t i4)⟩, ⟨(some i5), none, .build [.nilfn] [(0, 1, (.c (.fn i159 [] [])))]⟩, ⟨none, none, .insert .int (.t i1) (.c (.int .u8 (.ofNat 4))) (.t i5)⟩, ⟨(some i6), none, .move (.t i1)⟩, ⟨(some i0), none, .move (.t i6)⟩])
  .ret))⟩
theorem tr124 : trFunc (tyIn Tryz.prog tyn) ibn Tryz.f124 = some af124 := by kernel_rfl
theorem nm124 : (Tryz.f124.name == "runtime.NumGoroutine") = false := by kernel_rfl
theorem good124 : GoodAt Tryz.prog tyn ibn i124 af124 := goodAt Tryz.func124 tr124 nm124 rfl
def af125 : AFunc := ⟨[], (.seq (.seq (.region [⟨(some i6), none, .move (.t i0)⟩, ⟨(some i7), none, .nilCheck (.t i6)⟩, ⟨(some i8), none, .fieldAddr 11 (.t i7)⟩, ⟨(some i9), none, .fieldAddr 2 (.t i8)⟩, ⟨(some i10), none, .load none (.t i9)⟩, ⟨(some i11), none, .bin (.eq .int) (.t i10) (.c (.int .i64 (.negSucc 0)))⟩])
  (.cond (.t i11) (.seq (.region [⟨(some i12), none, .move (.t i0)⟩, ⟨(some i13), none, .move (.t i2)⟩, ⟨(some i14), none, .nilCheck (.t i12)⟩, ⟨(some i15), none, .fieldAddr 1 (.t i14)⟩, ⟨none, none, .store none (.t i15) (.t i13)⟩])
  .ret)
  .skip))
  (.region [⟨(some i16), none, .move (.t i0)⟩, ⟨(some i17), none, .move (.t i1)⟩, ⟨(some i18), none, .move (.t i0)⟩, ⟨(some i19), none, .nilCheck (.t i18)⟩, ⟨(some i20), none, .fieldAddr 11 (.t i19)⟩, ⟨(some i21), none, .fieldAddr 2 (.t i20)⟩, ⟨(some i22), none, .load none (.t i21)⟩, ⟨(some i23), none, .bin .add (.t i22) (.c (.int .i64 (.ofNat 1)))⟩, ⟨(some i24), none, .buildSlice [(.int .i64 (.ofNat 0))] 1 [(0, 1, (.t i23))]⟩, ⟨(some i25), none, .call i64 [(.t i16), (.t i17), (.t i24)]⟩]))⟩
theorem tr125 : trFunc (tyIn Tryz.prog tyn) ibn Tryz.f125 = some af125 := by kernel_rfl
theorem nm125 : (Tryz.f125.name == "runtime.NumGoroutine") = false := by kernel_rfl
theorem good125 : GoodAt Tryz.prog tyn ibn i125 af125 := goodAt Tryz.func125 tr125 nm125 rfl
def af126 : AFunc := ⟨[], (.seq (.region [⟨(some i4), none, .move (.t i1)⟩, ⟨(some i5), none, .nilCheck (.t i4)⟩, ⟨(some i6), none, .fieldAddr 25 (.t i5)⟩, ⟨none, none, .store none (.t i6) (.c (.fn i126 [] []))⟩])
  (.seq (.drawn [⟨2, .v, ⟨(some i9), none, .move (.t i0)⟩⟩, ⟨3, .v, ⟨(some i10), none, .move (.t i1)⟩⟩, ⟨4, .e, ⟨(some i11), none, .call i162 [(.t i9), (.t i10)]⟩⟩, ⟨5, .v, ⟨(some i12), none, .move (.t i1)⟩⟩, ⟨6, .v, ⟨(some i13), none, .nilCheck (.t i12)⟩⟩, ⟨7, .v, ⟨(some i14), none, .fieldAddr 11 (.t i13)⟩⟩, ⟨8, .v, ⟨(some i15), none, .fieldAddr 1 (.t i14)⟩⟩, ⟨9, (.r 1), ⟨(some i16), none, .load none (.t i15)⟩⟩, ⟨10, .e, ⟨(some i17), none, .call i161 [(.t i11), (.t i16)]⟩⟩, ⟨0, .v, ⟨(some i7), none, .move (.t i0)⟩⟩, ⟨1, .v, ⟨(some i8), none, .move (.t i1)⟩⟩, ⟨11, .e, ⟨(some i18), none, .call i160 [(.t i7), (.t i8), (.t i17)]⟩⟩, ⟨12, .v, ⟨(some i19), none, .not (.t i18)⟩⟩])
  (.cond (.t i19) (.region [⟨(some i20), none, .move (.t i1)⟩, ⟨(some i21), none, .nilCheck (.t i20)⟩, ⟨(some i22), none, .fieldAddr 1 (.t i21)⟩, ⟨none, none, .store none (.t i22) (.c (.fn i163 [] []))⟩])
  .skip)))⟩
theorem tr126 : trFunc (tyIn Tryz.prog tyn) ibn Tryz.f126 = some af126 := by kernel_rfl
theorem nm126 : (Tryz.f126.name == "runtime.NumGoroutine") = false := by kernel_rfl
theorem good126 : GoodAt Tryz.prog tyn ibn i126 af126 := goodAt Tryz.func126 tr126 nm126 rfl
def af127 : AFunc := ⟨[], (.seq (.region [⟨(some i4), none, .move (.t i0)⟩, ⟨(some i5), none, .move (.t i1)⟩, ⟨(some i6), none, .call i164 [(.t i4), (.t i5)]⟩])
  (.region [⟨(some i7), none, .move (.t i0)⟩, ⟨(some i8), none, .move (.t i1)⟩, ⟨(some i9), none, .call i165 [(.t i7), (.t i8)]⟩]))⟩
theorem tr127 : trFunc (tyIn Tryz.prog tyn) ibn Tryz.f127 = some af127 := by kernel_rfl
theorem nm127 : (Tryz.f127.name == "runtime.NumGoroutine") = false := by kernel_rfl
theorem good127 : GoodAt Tryz.prog tyn ibn i127 af127 := goodAt Tryz.func127 tr127 nm127 rfl
def af128 : AFunc := ⟨[], (.seq (.seq (.region [⟨(some i4), none, .move (.t i0)⟩, ⟨(some i5), none, .move (.t i1)⟩, ⟨(some i6), none, .call i162 [(.t i4), (.t i5)]⟩, ⟨(some i7), none, .call i166 [(.t i6)]⟩])
  (.cond (.t i7) (.seq (.region [⟨(some i8), none, .move (.t i0)⟩, ⟨(some i9), none, .move (.t i1)⟩, ⟨(some i10), none, .nilCheck (.t i9)⟩, ⟨(some i11), none, .fieldAddr 9 (.t i10)⟩, ⟨(some i12), none, .load none (.t i11)⟩, ⟨(some i13), none, .call i130 [(.t i8), (.t i12), (.c (.int .i64 (.negSucc 0))), (.c (.int .i64 (.ofNat 141)))]⟩])
  .ret)
  .skip))
  (.region [⟨(some i14), none, .move (.t i1)⟩, ⟨(some i15), none, .nilCheck (.t i14)⟩, ⟨(some i16), none, .fieldAddr 1 (.t i15)⟩, ⟨none, none, .store none (.t i16) (.c (.fn i167 [] []))⟩]))⟩
theorem tr128 : trFunc (tyIn Tryz.prog tyn) ibn Tryz.f128 = some af128 := by kernel_rfl
theorem nm128 : (Tryz.f128.name == "runtime.NumGoroutine") = false := by kernel_rfl
theorem good128 : GoodAt Tryz.prog tyn ibn i128 af128 := goodAt Tryz.func128 tr128 nm128 rfl
def af129 : AFunc := ⟨[], (.region [⟨(some i4), none, .move (.t i0)⟩, ⟨(some i5), none, .move (.t i1)⟩, ⟨(some i6), none, .nilCheck (.t i5)⟩, ⟨(some i7), none, .fieldAddr 9 (.t i6)⟩, ⟨(some i8), none, .load none (.t i7)⟩, ⟨(some i9), none, .call i130 [(.t i4), (.t i8), (.c (.int .i64 (.negSucc 0))), (.c (.int .i64 (.ofNat 142)))]⟩])⟩
theorem tr129 : trFunc (tyIn Tryz.prog tyn) ibn Tryz.f129 = some af129 := by kernel_rfl
theorem nm129 : (Tryz.f129.name == "runtime.NumGoroutine") = false := by kernel_rfl
theorem good129 : GoodAt Tryz.prog tyn ibn i129 af129 := goodAt Tryz.func129 tr129 nm129 rfl
def af130 : AFunc := ⟨[], (.seq (.region [⟨(some i8), none, .move (.t i0)⟩, ⟨(some i9), none, .move (.t i1)⟩, ⟨(some i10), none, .move (.t i2)⟩, ⟨(some i11), none, .move (.t i3)⟩, ⟨(some i12), none, .build [(.int .i64 (.ofNat 0)), (.int .u8 (.ofNat 0)), (.int .i64 (.ofNat 0)), (.int .i64 (.ofNat 0)), (.int .i64 (.ofNat 0)), (.int .i64 (.ofNat 0)), (.int .i64 (.ofNat 0)), (.int .i64 (.ofNat 0)), (.int .i64 (.ofNat 0)), (.int .i64 (.ofNat 0)), (.bool false), (.int .i64 (.ofNat 0)), (.int .u64 (.ofNat 0))] [(1, 1, (.c (.int .u8 (.ofNat 11)))), (3, 1, (.t i9)), (4, 1, (.t i10)), (11, 1, (.t i11))]⟩, ⟨(some i13), none, .call i93 [(.t i8), (.t i12)]⟩])
  (.region [⟨(some i14), none, .move (.t i0)⟩, ⟨(some i15), none, .move (.t i0)⟩, ⟨(some i16), none, .move (.t i0)⟩, ⟨(some i17), none, .move (.t i1)⟩, ⟨(some i18), none, .move (.t i3)⟩, ⟨(some i19), none, .nilCheck (.t i14)⟩, ⟨(some i20), none, .fieldAddr 17 (.t i19)⟩, ⟨none, none, .store none (.t i20) (.c (.int .u8 (.ofNat 3)))⟩, ⟨(some i21), none, .nilCheck (.t i15)⟩, ⟨(some i22), none, .fieldAddr 18 (.t i21)⟩, ⟨none, none, .store none (.t i22) (.t i17)⟩, ⟨(some i23), none, .nilCheck (.t i16)⟩, ⟨(some i24), none, .fieldAddr 19 (.t i23)⟩, ⟨none, none, .store none (.t i24) (.t i18)⟩]))⟩
theorem tr130 : trFunc (tyIn Tryz.prog tyn) ibn Tryz.f130 = some af130 := by kernel_rfl
theorem nm130 : (Tryz.f130.name == "runtime.NumGoroutine") = false := by kernel_rfl
theorem good130 : GoodAt Tryz.prog tyn ibn i130 af130 := goodAt Tryz.func130 tr130 nm130 rfl
def af131 : AFunc := ⟨[], (.seq (.region [⟨(some i7), none, .move (.t i1)⟩, ⟨(some i8), none, .move (.t i1)⟩, ⟨(some i9), none, .move (.t i1)⟩, ⟨(some i10), none, .move (.t i2)⟩, ⟨(some i11), none, .nilCheck (.t i7)⟩, ⟨(some i12), none, .fieldAddr 15 (.t i11)⟩, ⟨none, none, .store none (.t i12) (.t i10)⟩, ⟨(some i13), none, .nilCheck (.t i8)⟩, ⟨(some i14), none, .fieldAddr 16 (.t i13)⟩, ⟨none, none, .store none (.t i14) (.c (.int .u64 (.ofNat 0)))⟩, ⟨(some i15), none, .nilCheck (.t i9)⟩, ⟨(some i16), none, .fieldAddr 17 (.t i15)⟩, ⟨none, none, .store none (.t i16) (.c (.int .i64 (.ofNat 0)))⟩])
  (.seq (.region [⟨(some i17), none, .move (.t i0)⟩, ⟨(some i18), none, .move (.t i2)⟩, ⟨(some i19), none, .call i121 [(.t i17), (.t i18)]⟩, ⟨(some i6), none, .move (.t i19)⟩])
  (.seq (.seq (.region [⟨(some i20), none, .move (.t i6)⟩, ⟨(some i21), none, .lenSl (.t i20)⟩, ⟨(some i22), none, .bin (.eq .int) (.t i21) (.c (.int .i64 (.ofNat 0)))⟩])
  (.cond (.t i22) (.seq (.region [⟨(some i23), none, .move (.t i1)⟩, ⟨(some i24), none, .nilCheck (.t i23)⟩, ⟨(some i25), none, .fieldAddr 1 (.t i24)⟩, ⟨none, none, .store none (.t i25) (.c (.fn i168 [] []))⟩])
  .ret)
  .skip))
  (.seq (.region [⟨(some i26), none, .move (.t i1)⟩, ⟨(some i27), none, .nilCheck (.t i26)⟩, ⟨(some i28), none, .fieldAddr 8 (.t i27)⟩, ⟨none, none, .store none (.t i28) (.c (.bool true))⟩])
  (.region [⟨(some i29), none, .move (.t i1)⟩, ⟨(some i30), none, .move (.t i6)⟩, ⟨(some i31), none, .call i64 [(.t i29), (.c (.fn i169 [] [])), (.t i30)]⟩])))))⟩
theorem tr131 : trFunc (tyIn Tryz.prog tyn) ibn Tryz.f131 = some af131 := by kernel_rfl
theorem nm131 : (Tryz.f131.name == "runtime.NumGoroutine") = false := by kernel_rfl
theorem good131 : GoodAt Tryz.prog tyn ibn i131 af131 := goodAt Tryz.func131 tr131 nm131 rfl
def af132 : AFunc := ⟨[], (.seq (.region [⟨(some i9), none, .move (.t i0)⟩, ⟨(some i10), none, .move (.t i1)⟩, ⟨(some i11), none, .call i95 [(.t i9), (.t i10)]⟩, ⟨(some i4), none, .alloc [(.int .i64 (.ofNat 0)), (.int .i64 (.ofNat 0)), (.int .i64 (.ofNat 0)), (.int .i64 (.ofNat 0)), (.int .i64 (.ofNat 0)), (.int .i64 (.ofNat 0)), (.int .i64 (.ofNat 0)), (.int .i64 (.ofNat 0)), (.int .i64 (.ofNat 0)), (.int .i64 (.ofNat 0))]⟩, ⟨none, none, .store (some 10) (.t i4) (.t i11)⟩])
  (.seq (.drawn [⟨0, .v, ⟨(some i13), none, .move (.t i0)⟩⟩, ⟨1, .v, ⟨(some i14), none, .nilCheck (.t i13)⟩⟩, ⟨2, .v, ⟨(some i15), none, .fieldAddr 1 (.t i14)⟩⟩, ⟨3, (.r 0), ⟨(some i16), none, .load (some 3) (.t i15)⟩⟩, ⟨4, (.r 0), ⟨(some i17), none, .load (some 10) (.t i4)⟩⟩, ⟨5, .e, ⟨(some i18), none, .call i76 [(.t i16), (.t i17)]⟩⟩, ⟨6, .v, ⟨(some i12), none, .move (.t i18)⟩⟩, ⟨7, .v, ⟨(some i19), none, .extract 0 (.t i12)⟩⟩, ⟨9, .a, ⟨(some i5), none, .alloc [(.int .u8 (.ofNat 0)), (.int .i64 (.ofNat 0)), (.int .i64 (.ofNat 0)), (.int .i64 (.ofNat 0)), (.int .i64 (.ofNat 0))]⟩⟩, ⟨10, .e, ⟨none, none, .store (some 5) (.t i5) (.t i19)⟩⟩, ⟨8, .v, ⟨(some i20), none, .extract 1 (.t i12)⟩⟩, ⟨11, .v, ⟨(some i6), none, .move (.t i20)⟩⟩])
  (.seq (.region [⟨(some i22), none, .move (.t i0)⟩, ⟨(some i23), none, .nilCheck (.t i22)⟩, ⟨(some i24), none, .fieldAddr 0 (.t i23)⟩, ⟨(some i25), none, .load none (.t i24)⟩, ⟨(some i26), none, .call i6 [(.t i25)]⟩, ⟨(some i21), none, .move (.t i26)⟩, ⟨(some i27), none, .extract 0 (.t i21)⟩, ⟨(some i28), none, .extract 1 (.t i21)⟩, ⟨(some i7), none, .move (.t i27)⟩, ⟨(some i8), none, .move (.t i28)⟩])
  (.seq (.seq (.region [⟨(some i29), none, .move (.t i8)⟩, ⟨(some i30), none, .bin (.ne .int) (.t i29) (.c (.int .i64 (.ofNat 0)))⟩])
  (.cond (.t i30) (.seq (.region [⟨(some i31), none, .move (.t i0)⟩, ⟨(some i32), none, .move (.t i1)⟩, ⟨(some i33), none, .nilCheck (.t i32)⟩, ⟨(some i34), none, .fieldAddr 9 (.t i33)⟩, ⟨(some i35), none, .load none (.t i34)⟩, ⟨(some i36), none, .call i130 [(.t i31), (.t i35), (.c (.int .i64 (.negSucc 0))), (.c (.int .i64 (.ofNat 143)))]⟩])
  .ret)
  .skip))
  (.seq (.drawn [⟨4, (.r 0), ⟨(some i41), none, .load (some 10) (.t i4)⟩⟩, ⟨5, .v, ⟨(some i42), none, .fieldAddr 4 (.t i5)⟩⟩, ⟨6, (.r 0), ⟨(some i43), none, .load none (.t i42)⟩⟩, ⟨7, .e, ⟨(some i44), none, .call i170 [(.t i41), (.t i43)]⟩⟩, ⟨0, .v, ⟨(some i37), none, .move (.t i0)⟩⟩, ⟨1, .v, ⟨(some i38), none, .nilCheck (.t i37)⟩⟩, ⟨2, .v, ⟨(some i39), none, .fieldAddr 12 (.t i38)⟩⟩, ⟨3, (.r 1), ⟨(some i40), none, .load none (.t i39)⟩⟩, ⟨8, .e, ⟨(some i45), none, .call i43 [(.t i40), (.t i44)]⟩⟩])
  (.seq (.drawn [⟨0, .v, ⟨(some i46), none, .move (.t i0)⟩⟩, ⟨1, .v, ⟨(some i47), none, .move (.t i1)⟩⟩, ⟨2, .v, ⟨(some i48), none, .nilCheck (.t i47)⟩⟩, ⟨3, .v, ⟨(some i49), none, .fieldAddr 9 (.t i48)⟩⟩, ⟨4, (.r 0), ⟨(some i50), none, .load none (.t i49)⟩⟩, ⟨5, .v, ⟨(some i51), none, .move (.t i7)⟩⟩, ⟨6, .v, ⟨(some i52), none, .fieldAddr 4 (.t i5)⟩⟩, ⟨7, (.r 0), ⟨(some i53), none, .load none (.t i52)⟩⟩, ⟨8, .v, ⟨(some i54), none, .build [(.int .i64 (.ofNat 0)), (.int .u8 (.ofNat 0)), (.int .i64 (.ofNat 0)), (.int .i64 (.ofNat 0)), (.int .i64 (.ofNat 0)), (.int .i64 (.ofNat 0)), (.int .i64 (.ofNat 0)), (.int .i64 (.ofNat 0)), (.int .i64 (.ofNat 0)), (.int .i64 (.ofNat 0)), (.bool false), (.int .i64 (.ofNat 0)), (.int .u64 (.ofNat 0))] [(1, 1, (.c (.int .u8 (.ofNat 9)))), (3, 1, (.t i50)), (4, 1, (.t i51)), (6, 1, (.t i53))]⟩⟩, ⟨9, .e, ⟨(some i55), none, .call i93 [(.t i46), (.t i54)]⟩⟩])
  (.seq (.region [⟨(some i56), none, .move (.t i1)⟩, ⟨(some i57), none, .call i171 [(.t i56), (.c (.int .i64 (.negSucc 0))), (.c (.int .i64 (.ofNat 0))), (.c (.bool false))]⟩])
  (.region [⟨(some i58), none, .move (.t i1)⟩, ⟨(some i59), none, .call i79 [(.t i58), (.c (.fn i154 [] []))]⟩]))))))))⟩
theorem tr132 : trFunc (tyIn Tryz.prog tyn) ibn Tryz.f132 = some af132 := by kernel_rfl
theorem nm132 : (Tryz.f132.name == "runtime.NumGoroutine") = false := by kernel_rfl
theorem good132 : GoodAt Tryz.prog tyn ibn i132 af132 := goodAt Tryz.func132 tr132 nm132 rfl
end Go.Am

