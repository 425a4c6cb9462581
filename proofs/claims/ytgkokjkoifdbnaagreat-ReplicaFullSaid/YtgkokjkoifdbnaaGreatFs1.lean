import Derived.Test.YtgkokjkoifdbnaaGreatAm0
/- The functions of the program as the interpreter has them. -/
set_option maxRecDepth 100000
namespace Go.Am.Fs
open Go.Am

/-- slices.choosePivotCmpFunc[arras.api.Node] -/
def F324 : AFun := ⟨false, 63, [.t 8, .t 9], (.seq (.region [{ dst := some 8, op := .move (.c (.v (.int .i64 0))) },
  { dst := some 9, op := .move (.c (.v (.int .i64 0))) }])
 (.seq (.region [{ dst := some 15, op := .move (.t 2) },
  { dst := some 16, op := .move (.t 1) },
  { dst := some 17, op := .bin .sub (.t 15) (.t 16) },
  { dst := some 10, op := .move (.t 17) }])
 (.seq (.region [{ dst := some 11, op := .alloc 3 [.v (.int .i64 0)] }])
 (.seq (.region [{ dst := some 18, op := .move (.t 1) },
  { dst := some 19, op := .move (.t 10) },
  { dst := some 20, op := .bin .quo (.t 19) (.c (.v (.int .i64 4))) },
  { dst := some 21, op := .bin .mul (.t 20) (.c (.v (.int .i64 1))) },
  { dst := some 22, op := .bin .add (.t 18) (.t 21) },
  { dst := some 12, op := .move (.t 22) }])
 (.seq (.region [{ dst := some 23, op := .move (.t 1) },
  { dst := some 24, op := .move (.t 10) },
  { dst := some 25, op := .bin .quo (.t 24) (.c (.v (.int .i64 4))) },
  { dst := some 26, op := .bin .mul (.t 25) (.c (.v (.int .i64 2))) },
  { dst := some 27, op := .bin .add (.t 23) (.t 26) },
  { dst := some 13, op := .move (.t 27) }])
 (.seq (.region [{ dst := some 28, op := .move (.t 1) },
  { dst := some 29, op := .move (.t 10) },
  { dst := some 30, op := .bin .quo (.t 29) (.c (.v (.int .i64 4))) },
  { dst := some 31, op := .bin .mul (.t 30) (.c (.v (.int .i64 3))) },
  { dst := some 32, op := .bin .add (.t 28) (.t 31) },
  { dst := some 14, op := .move (.t 32) }])
 (.seq (.seq (.region [{ dst := some 33, op := .move (.t 10) },
  { dst := some 34, op := .bin .geq (.t 33) (.c (.v (.int .i64 8))) }])
 (.cond (.t 34) (.seq (.seq (.region [{ dst := some 35, op := .move (.t 10) },
  { dst := some 36, op := .bin .geq (.t 35) (.c (.v (.int .i64 50))) }])
 (.cond (.t 36) (.seq (.region [{ dst := some 37, op := .move (.t 0) },
  { dst := some 38, op := .move (.t 12) },
  { dst := some 39, op := .move (.t 3) },
  { dst := some 40, op := .call 354 [(.t 37), (.t 38), (.t 11), (.t 39)] },
  { dst := some 12, op := .move (.t 40) }])
 (.seq (.region [{ dst := some 41, op := .move (.t 0) },
  { dst := some 42, op := .move (.t 13) },
  { dst := some 43, op := .move (.t 3) },
  { dst := some 44, op := .call 354 [(.t 41), (.t 42), (.t 11), (.t 43)] },
  { dst := some 13, op := .move (.t 44) }])
 (.region [{ dst := some 45, op := .move (.t 0) },
  { dst := some 46, op := .move (.t 14) },
  { dst := some 47, op := .move (.t 3) },
  { dst := some 48, op := .call 354 [(.t 45), (.t 46), (.t 11), (.t 47)] },
  { dst := some 14, op := .move (.t 48) }]))) .skip))
 (.region [{ dst := some 49, op := .move (.t 0) },
  { dst := some 50, op := .move (.t 12) },
  { dst := some 51, op := .move (.t 13) },
  { dst := some 52, op := .move (.t 14) },
  { dst := some 53, op := .move (.t 3) },
  { dst := some 54, op := .call 355 [(.t 49), (.t 50), (.t 51), (.t 52), (.t 11), (.t 53)] },
  { dst := some 13, op := .move (.t 54) }])) .skip))
 (.seq (.region [{ dst := some 55, op := .load false 1 (.t 11) }])
 (.block 0 (.seq (.region [{ dst := some 58, op := .bin .eql (.t 55) (.c (.v (.int .i64 0))) },
  { dst := some 57, op := .move (.t 58) }])
 (.cond (.t 57) (.seq (.region [{ dst := some 59, op := .move (.t 13) },
  { dst := some 8, op := .move (.t 59) },
  { dst := some 9, op := .move (.c (.v (.int .i64 1))) }])
 .ret) (.seq (.region [{ dst := some 61, op := .bin .eql (.t 55) (.c (.v (.int .i64 12))) },
  { dst := some 60, op := .move (.t 61) }])
 (.cond (.t 60) (.seq (.region [{ dst := some 62, op := .move (.t 13) },
  { dst := some 8, op := .move (.t 62) },
  { dst := some 9, op := .move (.c (.v (.int .i64 2))) }])
 .ret) (.seq (.region [{ dst := some 56, op := .move (.t 13) },
  { dst := some 8, op := .move (.t 56) },
  { dst := some 9, op := .move (.c (.v (.int .i64 0))) }])
 .ret))))))))))))))⟩
/-- slices.partialInsertionSortCmpFunc[arras.api.Node] -/
def F326 : AFun := ⟨false, 141, [.t 8], (.seq (.region [{ dst := some 8, op := .move (.c (.v (.bool false))) }])
 (.seq (.region [{ dst := some 13, op := .move (.t 1) },
  { dst := some 14, op := .bin .add (.t 13) (.c (.v (.int .i64 1))) },
  { dst := some 9, op := .move (.t 14) }])
 (.seq (.seq (.region [{ dst := some 10, op := .move (.c (.v (.int .i64 0))) }])
 (.block 0 (.loop (.seq (.seq (.region [{ dst := some 15, op := .move (.t 10) },
  { dst := some 16, op := .bin .lss (.t 15) (.c (.v (.int .i64 5))) }])
 (.cond (.t 16) .skip (.exit 0)))
 (.seq (.block 1 (.seq (.block 2 (.loop (.seq (.seq (.dregion [{ dst := some 19, op := .move (.t 9) },
  { dst := some 20, op := .move (.t 2) },
  { dst := some 21, op := .bin .lss (.t 19) (.t 20) },
  { dst := some 22, op := .move (.t 21) },
  { dst := some 23, op := .move (.t 3), guard := some (22, true) },
  { dst := some 24, op := .move (.t 0), guard := some (22, true) },
  { dst := some 25, op := .move (.t 9), guard := some (22, true) },
  { dst := some 26, op := .iaddr 5 (.t 24) (.t 25), guard := some (22, true) },
  { dst := some 27, op := .load true 5 (.t 26), guard := some (22, true) },
  { dst := some 28, op := .move (.t 0), guard := some (22, true) },
  { dst := some 29, op := .move (.t 9), guard := some (22, true) },
  { dst := some 30, op := .bin .sub (.t 29) (.c (.v (.int .i64 1))), guard := some (22, true) },
  { dst := some 31, op := .iaddr 5 (.t 28) (.t 30), guard := some (22, true) },
  { dst := some 32, op := .load true 5 (.t 31), guard := some (22, true) },
  { dst := some 33, op := .callv (.t 23) [(.t 27), (.t 32)], guard := some (22, true) },
  { dst := some 34, op := .bin .lss (.t 33) (.c (.v (.int .i64 0))), guard := some (22, true) },
  { dst := some 35, op := .un .not (.t 34), guard := some (22, true) },
  { dst := some 36, op := .pick (.t 22) (.t 35) (.c (.v (.bool false))) }])
 (.cond (.t 36) .skip (.exit 2)))
 (.block 3 (.region [{ dst := some 37, op := .move (.t 9) },
  { dst := some 38, op := .bin .add (.t 37) (.c (.v (.int .i64 1))) },
  { dst := some 9, op := .move (.t 38) }])))))
 (.seq (.seq (.region [{ dst := some 39, op := .move (.t 9) },
  { dst := some 40, op := .move (.t 2) },
  { dst := some 41, op := .bin .eql (.t 39) (.t 40) }])
 (.cond (.t 41) (.seq (.region [{ dst := some 8, op := .move (.c (.v (.bool true))) }])
 .ret) .skip))
 (.seq (.seq (.region [{ dst := some 42, op := .move (.t 2) },
  { dst := some 43, op := .move (.t 1) },
  { dst := some 44, op := .bin .sub (.t 42) (.t 43) },
  { dst := some 45, op := .bin .lss (.t 44) (.c (.v (.int .i64 50))) }])
 (.cond (.t 45) (.seq (.region [{ dst := some 8, op := .move (.c (.v (.bool false))) }])
 .ret) .skip))
 (.seq (.dregion [{ dst := some 46, op := .move (.t 0) },
  { dst := some 47, op := .move (.t 9) },
  { dst := some 48, op := .move (.t 0) },
  { dst := some 49, op := .move (.t 9) },
  { dst := some 50, op := .bin .sub (.t 49) (.c (.v (.int .i64 1))) },
  { dst := some 51, op := .move (.t 0) },
  { dst := some 52, op := .move (.t 9) },
  { dst := some 53, op := .bin .sub (.t 52) (.c (.v (.int .i64 1))) },
  { dst := some 54, op := .iaddr 5 (.t 51) (.t 53) },
  { dst := some 55, op := .load true 5 (.t 54) },
  { dst := some 56, op := .move (.t 0) },
  { dst := some 57, op := .move (.t 9) },
  { dst := some 58, op := .iaddr 5 (.t 56) (.t 57) },
  { dst := some 59, op := .load true 5 (.t 58) },
  { dst := some 60, op := .iaddr 5 (.t 46) (.t 47) },
  { dst := none, op := .store 5 (.t 60) (.t 55) },
  { dst := some 61, op := .iaddr 5 (.t 48) (.t 50) },
  { dst := none, op := .store 5 (.t 61) (.t 59) }])
 (.seq (.seq (.region [{ dst := some 62, op := .move (.t 9) },
  { dst := some 63, op := .move (.t 1) },
  { dst := some 64, op := .bin .sub (.t 62) (.t 63) },
  { dst := some 65, op := .bin .geq (.t 64) (.c (.v (.int .i64 2))) }])
 (.cond (.t 65) (.seq (.region [{ dst := some 66, op := .move (.t 9) },
  { dst := some 67, op := .bin .sub (.t 66) (.c (.v (.int .i64 1))) },
  { dst := some 11, op := .move (.t 67) }])
 (.block 4 (.loop (.seq (.seq (.region [{ dst := some 68, op := .move (.t 11) },
  { dst := some 69, op := .bin .geq (.t 68) (.c (.v (.int .i64 1))) }])
 (.cond (.t 69) .skip (.exit 4)))
 (.seq (.block 5 (.seq (.seq (.dregion [{ dst := some 72, op := .move (.t 3) },
  { dst := some 73, op := .move (.t 0) },
  { dst := some 74, op := .move (.t 11) },
  { dst := some 75, op := .iaddr 5 (.t 73) (.t 74) },
  { dst := some 76, op := .load true 5 (.t 75) },
  { dst := some 77, op := .move (.t 0) },
  { dst := some 78, op := .move (.t 11) },
  { dst := some 79, op := .bin .sub (.t 78) (.c (.v (.int .i64 1))) },
  { dst := some 80, op := .iaddr 5 (.t 77) (.t 79) },
  { dst := some 81, op := .load true 5 (.t 80) },
  { dst := some 82, op := .callv (.t 72) [(.t 76), (.t 81)] },
  { dst := some 83, op := .bin .lss (.t 82) (.c (.v (.int .i64 0))) },
  { dst := some 84, op := .un .not (.t 83) }])
 (.cond (.t 84) (.exit 4) .skip))
 (.dregion [{ dst := some 85, op := .move (.t 0) },
  { dst := some 86, op := .move (.t 11) },
  { dst := some 87, op := .move (.t 0) },
  { dst := some 88, op := .move (.t 11) },
  { dst := some 89, op := .bin .sub (.t 88) (.c (.v (.int .i64 1))) },
  { dst := some 90, op := .move (.t 0) },
  { dst := some 91, op := .move (.t 11) },
  { dst := some 92, op := .bin .sub (.t 91) (.c (.v (.int .i64 1))) },
  { dst := some 93, op := .iaddr 5 (.t 90) (.t 92) },
  { dst := some 94, op := .load true 5 (.t 93) },
  { dst := some 95, op := .move (.t 0) },
  { dst := some 96, op := .move (.t 11) },
  { dst := some 97, op := .iaddr 5 (.t 95) (.t 96) },
  { dst := some 98, op := .load true 5 (.t 97) },
  { dst := some 99, op := .iaddr 5 (.t 85) (.t 86) },
  { dst := none, op := .store 5 (.t 99) (.t 94) },
  { dst := some 100, op := .iaddr 5 (.t 87) (.t 89) },
  { dst := none, op := .store 5 (.t 100) (.t 98) }])))
 (.region [{ dst := some 70, op := .move (.t 11) },
  { dst := some 71, op := .bin .sub (.t 70) (.c (.v (.int .i64 1))) },
  { dst := some 11, op := .move (.t 71) }])))))) .skip))
 (.seq (.region [{ dst := some 101, op := .move (.t 2) },
  { dst := some 102, op := .move (.t 9) },
  { dst := some 103, op := .bin .sub (.t 101) (.t 102) },
  { dst := some 104, op := .bin .geq (.t 103) (.c (.v (.int .i64 2))) }])
 (.cond (.t 104) (.seq (.region [{ dst := some 105, op := .move (.t 9) },
  { dst := some 106, op := .bin .add (.t 105) (.c (.v (.int .i64 1))) },
  { dst := some 12, op := .move (.t 106) }])
 (.block 6 (.loop (.seq (.seq (.region [{ dst := some 107, op := .move (.t 12) },
  { dst := some 108, op := .move (.t 2) },
  { dst := some 109, op := .bin .lss (.t 107) (.t 108) }])
 (.cond (.t 109) .skip (.exit 6)))
 (.seq (.block 7 (.seq (.seq (.dregion [{ dst := some 112, op := .move (.t 3) },
  { dst := some 113, op := .move (.t 0) },
  { dst := some 114, op := .move (.t 12) },
  { dst := some 115, op := .iaddr 5 (.t 113) (.t 114) },
  { dst := some 116, op := .load true 5 (.t 115) },
  { dst := some 117, op := .move (.t 0) },
  { dst := some 118, op := .move (.t 12) },
  { dst := some 119, op := .bin .sub (.t 118) (.c (.v (.int .i64 1))) },
  { dst := some 120, op := .iaddr 5 (.t 117) (.t 119) },
  { dst := some 121, op := .load true 5 (.t 120) },
  { dst := some 122, op := .callv (.t 112) [(.t 116), (.t 121)] },
  { dst := some 123, op := .bin .lss (.t 122) (.c (.v (.int .i64 0))) },
  { dst := some 124, op := .un .not (.t 123) }])
 (.cond (.t 124) (.exit 6) .skip))
 (.dregion [{ dst := some 125, op := .move (.t 0) },
  { dst := some 126, op := .move (.t 12) },
  { dst := some 127, op := .move (.t 0) },
  { dst := some 128, op := .move (.t 12) },
  { dst := some 129, op := .bin .sub (.t 128) (.c (.v (.int .i64 1))) },
  { dst := some 130, op := .move (.t 0) },
  { dst := some 131, op := .move (.t 12) },
  { dst := some 132, op := .bin .sub (.t 131) (.c (.v (.int .i64 1))) },
  { dst := some 133, op := .iaddr 5 (.t 130) (.t 132) },
  { dst := some 134, op := .load true 5 (.t 133) },
  { dst := some 135, op := .move (.t 0) },
  { dst := some 136, op := .move (.t 12) },
  { dst := some 137, op := .iaddr 5 (.t 135) (.t 136) },
  { dst := some 138, op := .load true 5 (.t 137) },
  { dst := some 139, op := .iaddr 5 (.t 125) (.t 126) },
  { dst := none, op := .store 5 (.t 139) (.t 134) },
  { dst := some 140, op := .iaddr 5 (.t 127) (.t 129) },
  { dst := none, op := .store 5 (.t 140) (.t 138) }])))
 (.region [{ dst := some 110, op := .move (.t 12) },
  { dst := some 111, op := .bin .add (.t 110) (.c (.v (.int .i64 1))) },
  { dst := some 12, op := .move (.t 111) }])))))) .skip))))))))
 (.region [{ dst := some 17, op := .move (.t 10) },
  { dst := some 18, op := .bin .add (.t 17) (.c (.v (.int .i64 1))) },
  { dst := some 10, op := .move (.t 18) }]))))))
 (.seq (.region [{ dst := some 8, op := .move (.c (.v (.bool false))) }])
 .ret))))⟩
/-- math.bits.Len64 -/
def F330 : AFun := ⟨true, 25, [.t 2], (.seq (.region [{ dst := some 2, op := .move (.c (.v (.int .i64 0))) }])
 (.seq (.seq (.region [{ dst := some 3, op := .move (.t 0) },
  { dst := some 4, op := .bin .geq (.t 3) (.c (.v (.int .u64 4294967296))) }])
 (.cond (.t 4) (.seq (.region [{ dst := some 5, op := .move (.t 0) },
  { dst := some 6, op := .bin .shr (.t 5) (.c (.v (.int .u64 32))) },
  { dst := some 0, op := .move (.t 6) }])
 (.region [{ dst := some 2, op := .move (.c (.v (.int .i64 32))) }])) .skip))
 (.seq (.seq (.region [{ dst := some 7, op := .move (.t 0) },
  { dst := some 8, op := .bin .geq (.t 7) (.c (.v (.int .u64 65536))) }])
 (.cond (.t 8) (.seq (.region [{ dst := some 9, op := .move (.t 0) },
  { dst := some 10, op := .bin .shr (.t 9) (.c (.v (.int .u64 16))) },
  { dst := some 0, op := .move (.t 10) }])
 (.region [{ dst := some 11, op := .move (.t 2) },
  { dst := some 12, op := .bin .add (.t 11) (.c (.v (.int .i64 16))) },
  { dst := some 2, op := .move (.t 12) }])) .skip))
 (.seq (.seq (.region [{ dst := some 13, op := .move (.t 0) },
  { dst := some 14, op := .bin .geq (.t 13) (.c (.v (.int .u64 256))) }])
 (.cond (.t 14) (.seq (.region [{ dst := some 15, op := .move (.t 0) },
  { dst := some 16, op := .bin .shr (.t 15) (.c (.v (.int .u64 8))) },
  { dst := some 0, op := .move (.t 16) }])
 (.region [{ dst := some 17, op := .move (.t 2) },
  { dst := some 18, op := .bin .add (.t 17) (.c (.v (.int .i64 8))) },
  { dst := some 2, op := .move (.t 18) }])) .skip))
 (.seq (.region [{ dst := some 19, op := .move (.t 2) },
  { dst := some 20, op := .move (.t 0) },
  { dst := some 21, op := .conv .u8 (.t 20) },
  { dst := some 22, op := .index (.c (.v (.string ⟨#[0, 1, 2, 2, 3, 3, 3, 3, 4, 4, 4, 4, 4, 4, 4, 4, 5, 5, 5, 5, 5, 5, 5, 5, 5, 5, 5, 5, 5, 5, 5, 5, 6, 6, 6, 6, 6, 6, 6, 6, 6, 6, 6, 6, 6, 6, 6, 6, 6, 6, 6, 6, 6, 6, 6, 6, 6, 6, 6, 6, 6, 6, 6, 6, 7, 7, 7, 7, 7, 7, 7, 7, 7, 7, 7, 7, 7, 7, 7, 7, 7, 7, 7, 7, 7, 7, 7, 7, 7, 7, 7, 7, 7, 7, 7, 7, 7, 7, 7, 7, 7, 7, 7, 7, 7, 7, 7, 7, 7, 7, 7, 7, 7, 7, 7, 7, 7, 7, 7, 7, 7, 7, 7, 7, 7, 7, 7, 7, 8, 8, 8, 8, 8, 8, 8, 8, 8, 8, 8, 8, 8, 8, 8, 8, 8, 8, 8, 8, 8, 8, 8, 8, 8, 8, 8, 8, 8, 8, 8, 8, 8, 8, 8, 8, 8, 8, 8, 8, 8, 8, 8, 8, 8, 8, 8, 8, 8, 8, 8, 8, 8, 8, 8, 8, 8, 8, 8, 8, 8, 8, 8, 8, 8, 8, 8, 8, 8, 8, 8, 8, 8, 8, 8, 8, 8, 8, 8, 8, 8, 8, 8, 8, 8, 8, 8, 8, 8, 8, 8, 8, 8, 8, 8, 8, 8, 8, 8, 8, 8, 8, 8, 8, 8, 8, 8, 8, 8, 8, 8, 8, 8, 8, 8, 8, 8, 8, 8, 8, 8, 8, 8, 8, 8, 8, 8, 8]⟩))) (.t 21) },
  { dst := some 23, op := .conv .i64 (.t 22) },
  { dst := some 24, op := .bin .add (.t 19) (.t 23) },
  { dst := some 2, op := .move (.t 24) }])
 .ret)))))⟩
/-- slices.medianCmpFunc[arras.api.Node] -/
def F355 : AFun := ⟨false, 41, [.t 12], (.seq (.region [{ dst := some 12, op := .move (.c (.v (.int .i64 0))) }])
 (.seq (.region [{ dst := some 14, op := .move (.t 0) },
  { dst := some 15, op := .move (.t 1) },
  { dst := some 16, op := .move (.t 2) },
  { dst := some 17, op := .move (.t 4) },
  { dst := some 18, op := .move (.t 5) },
  { dst := some 19, op := .call 370 [(.t 14), (.t 15), (.t 16), (.t 17), (.t 18)] },
  { dst := some 13, op := .move (.t 19) },
  { dst := some 20, op := .ext (.t 13) 0 },
  { dst := some 21, op := .ext (.t 13) 1 },
  { dst := some 1, op := .move (.t 20) },
  { dst := some 2, op := .move (.t 21) }])
 (.seq (.region [{ dst := some 23, op := .move (.t 0) },
  { dst := some 24, op := .move (.t 2) },
  { dst := some 25, op := .move (.t 3) },
  { dst := some 26, op := .move (.t 4) },
  { dst := some 27, op := .move (.t 5) },
  { dst := some 28, op := .call 370 [(.t 23), (.t 24), (.t 25), (.t 26), (.t 27)] },
  { dst := some 22, op := .move (.t 28) },
  { dst := some 29, op := .ext (.t 22) 0 },
  { dst := some 30, op := .ext (.t 22) 1 },
  { dst := some 2, op := .move (.t 29) },
  { dst := some 3, op := .move (.t 30) }])
 (.seq (.region [{ dst := some 32, op := .move (.t 0) },
  { dst := some 33, op := .move (.t 1) },
  { dst := some 34, op := .move (.t 2) },
  { dst := some 35, op := .move (.t 4) },
  { dst := some 36, op := .move (.t 5) },
  { dst := some 37, op := .call 370 [(.t 32), (.t 33), (.t 34), (.t 35), (.t 36)] },
  { dst := some 31, op := .move (.t 37) },
  { dst := some 38, op := .ext (.t 31) 0 },
  { dst := some 39, op := .ext (.t 31) 1 },
  { dst := some 1, op := .move (.t 38) },
  { dst := some 2, op := .move (.t 39) }])
 (.seq (.region [{ dst := some 40, op := .move (.t 2) },
  { dst := some 12, op := .move (.t 40) }])
 .ret)))))⟩
/-- slices.order2CmpFunc[arras.api.Node] -/
def F370 : AFun := ⟨false, 32, [.t 10, .t 11], (.seq (.region [{ dst := some 10, op := .move (.c (.v (.int .i64 0))) },
  { dst := some 11, op := .move (.c (.v (.int .i64 0))) }])
 (.seq (.seq (.dregion [{ dst := some 12, op := .move (.t 4) },
  { dst := some 13, op := .move (.t 0) },
  { dst := some 14, op := .move (.t 2) },
  { dst := some 15, op := .iaddr 5 (.t 13) (.t 14) },
  { dst := some 16, op := .load true 5 (.t 15) },
  { dst := some 17, op := .move (.t 0) },
  { dst := some 18, op := .move (.t 1) },
  { dst := some 19, op := .iaddr 5 (.t 17) (.t 18) },
  { dst := some 20, op := .load true 5 (.t 19) },
  { dst := some 21, op := .callv (.t 12) [(.t 16), (.t 20)] },
  { dst := some 22, op := .bin .lss (.t 21) (.c (.v (.int .i64 0))) }])
 (.cond (.t 22) (.seq (.region [{ dst := some 23, op := .move (.t 3) },
  { dst := some 24, op := .nilChk (.t 23) },
  { dst := some 25, op := .load false 1 (.t 24) },
  { dst := some 26, op := .bin .add (.t 25) (.c (.v (.int .i64 1))) },
  { dst := some 27, op := .nilChk (.t 23) },
  { dst := none, op := .store 1 (.t 27) (.t 26) }])
 (.seq (.region [{ dst := some 28, op := .move (.t 2) },
  { dst := some 29, op := .move (.t 1) },
  { dst := some 10, op := .move (.t 28) },
  { dst := some 11, op := .move (.t 29) }])
 .ret)) .skip))
 (.seq (.region [{ dst := some 30, op := .move (.t 1) },
  { dst := some 31, op := .move (.t 2) },
  { dst := some 10, op := .move (.t 30) },
  { dst := some 11, op := .move (.t 31) }])
 .ret)))⟩
end Go.Am.Fs
