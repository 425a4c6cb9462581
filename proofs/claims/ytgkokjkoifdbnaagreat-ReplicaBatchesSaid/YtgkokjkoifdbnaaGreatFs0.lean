import Derived.Test.YtgkokjkoifdbnaaGreatAm0
/- The functions of the program as the interpreter has them. -/
set_option maxRecDepth 100000
namespace Go.Am.Fs
open Go.Am

/-- arras.arraslaw26.ReplicaBatches -/
def F5 : AFun := ⟨true, 166, [.t 2], (.seq (.region [{ dst := some 1, op := .box 35 12 (.t 0) },
  { dst := some 2, op := .move (.c (.v (.bool false))) }])
 (.seq (.region [{ dst := some 23, op := .faddr 11 (.t 1) },
  { dst := some 24, op := .load false 1 (.t 23) },
  { dst := some 25, op := .len (.t 24) },
  { dst := some 26, op := .call 21 [(.t 25), (.c (.v (.int .i64 24)))] },
  { dst := some 3, op := .move (.t 26) }])
 (.seq (.region [{ dst := some 28, op := .call 8 [(.c (.v (.int .i64 0))), (.c (.v (.int .i64 2)))] },
  { dst := some 27, op := .move (.t 28) },
  { dst := some 29, op := .ext (.t 27) 0 },
  { dst := some 30, op := .ext (.t 27) 1 },
  { dst := some 4, op := .alloc 32 [.v (.int .i64 0), .v (.int .i64 0), .v (.slice none 0 0), .v (.slice none 0 0), .v (.slice none 0 0), .v (.slice none 0 0), .v (.slice none 0 0), .v (.slice none 0 0), .v (.int .i64 0), .v (.int .i64 0), .v (.int .i64 0)] },
  { dst := none, op := .store 11 (.t 4) (.t 29) },
  { dst := some 5, op := .move (.t 30) }])
 (.seq (.region [{ dst := some 32, op := .call 8 [(.c (.v (.int .i64 1))), (.c (.v (.int .i64 2)))] },
  { dst := some 31, op := .move (.t 32) },
  { dst := some 33, op := .ext (.t 31) 0 },
  { dst := some 34, op := .ext (.t 31) 1 },
  { dst := some 6, op := .alloc 32 [.v (.int .i64 0), .v (.int .i64 0), .v (.slice none 0 0), .v (.slice none 0 0), .v (.slice none 0 0), .v (.slice none 0 0), .v (.slice none 0 0), .v (.slice none 0 0), .v (.int .i64 0), .v (.int .i64 0), .v (.int .i64 0)] },
  { dst := none, op := .store 11 (.t 6) (.t 33) },
  { dst := some 7, op := .move (.t 34) }])
 (.seq (.seq (.region [{ dst := some 35, op := .move (.t 5) },
  { dst := some 36, op := .call 9 [(.t 35)] },
  { dst := some 37, op := .bin .neq (.t 36) (.c (.v (.int .i64 0))) },
  { dst := some 38, op := .move (.t 37) },
  { dst := some 39, op := .move (.t 7), guard := some (38, false) },
  { dst := some 40, op := .call 9 [(.t 39)], guard := some (38, false) },
  { dst := some 41, op := .bin .neq (.t 40) (.c (.v (.int .i64 0))), guard := some (38, false) },
  { dst := some 42, op := .pick (.t 38) (.c (.v (.bool true))) (.t 41) }])
 (.cond (.t 42) (.seq (.region [{ dst := some 2, op := .move (.c (.v (.bool false))) }])
 .ret) .skip))
 (.seq (.seq (.region [{ dst := some 8, op := .move (.c (.v (.int .i64 0))) }])
 (.block 0 (.loop (.seq (.seq (.region [{ dst := some 43, op := .move (.t 8) },
  { dst := some 44, op := .move (.t 3) },
  { dst := some 45, op := .bin .lss (.t 43) (.t 44) }])
 (.cond (.t 45) .skip (.exit 0)))
 (.seq (.block 1 (.seq (.region [{ dst := some 49, op := .load true 11 (.t 4) },
  { dst := some 50, op := .build [.v (.int .i64 0), .v (.int .i64 0), .v (.int .i64 0), .v (.int .i64 0), .v (.int .i64 0), .v (.int .i64 0), .v (.int .i64 0), .v (.int .i64 0), .v (.int .i64 0), .v (.int .i64 0)] [(0, 1, (.c (.v (.int .i64 1))))] },
  { dst := some 51, op := .call 10 [(.t 49), (.t 50)] },
  { dst := some 48, op := .move (.t 51) },
  { dst := some 52, op := .ext (.t 48) 0 },
  { dst := some 53, op := .ext (.t 48) 1 },
  { dst := some 54, op := .ext (.t 48) 2 },
  { dst := some 9, op := .alloc 32 [.v (.int .i64 0), .v (.int .i64 0), .v (.slice none 0 0), .v (.slice none 0 0), .v (.slice none 0 0), .v (.slice none 0 0), .v (.slice none 0 0), .v (.slice none 0 0), .v (.int .i64 0), .v (.int .i64 0), .v (.int .i64 0)] },
  { dst := some 10, op := .alloc 47 [.v (.int .i64 0), .v (.int .i64 0), .v (.int .i64 0), .v (.slice none 0 0), .v (.int .i64 0), .v (.int .i64 0), .v (.complex .f64 0 0), .v (.complex .f64 0 0), .v (.slice none 0 0)] },
  { dst := none, op := .store 11 (.t 9) (.t 52) },
  { dst := none, op := .store 9 (.t 10) (.t 53) },
  { dst := some 11, op := .move (.t 54) }])
 (.seq (.seq (.region [{ dst := some 55, op := .move (.t 11) },
  { dst := some 56, op := .call 9 [(.t 55)] },
  { dst := some 57, op := .bin .neq (.t 56) (.c (.v (.int .i64 0))) },
  { dst := some 58, op := .move (.t 57) },
  { dst := some 59, op := .faddr 0 (.t 10), guard := some (58, false) },
  { dst := some 60, op := .load false 1 (.t 59), guard := some (58, false) },
  { dst := some 61, op := .bin .neq (.t 60) (.c (.v (.int .i64 0))), guard := some (58, false) },
  { dst := some 62, op := .pick (.t 58) (.c (.v (.bool true))) (.t 61) }])
 (.cond (.t 62) (.seq (.region [{ dst := some 2, op := .move (.c (.v (.bool false))) }])
 .ret) .skip))
 (.region [{ dst := some 63, op := .load true 11 (.t 9) },
  { dst := none, op := .store 11 (.t 4) (.t 63) }]))))
 (.region [{ dst := some 46, op := .move (.t 8) },
  { dst := some 47, op := .bin .add (.t 46) (.c (.v (.int .i64 1))) },
  { dst := some 8, op := .move (.t 47) }]))))))
 (.seq (.seq (.region [{ dst := some 12, op := .move (.c (.v (.int .i64 0))) }])
 (.block 2 (.loop (.seq (.seq (.region [{ dst := some 64, op := .move (.t 12) },
  { dst := some 65, op := .bin .lss (.t 64) (.c (.v (.int .i64 5))) }])
 (.cond (.t 65) .skip (.exit 2)))
 (.seq (.block 3 (.seq (.region [{ dst := some 68, op := .faddr 2 (.t 6) },
  { dst := some 69, op := .load false 1 (.t 68) },
  { dst := some 70, op := .build [.v (.int .i64 0), .v (.int .i64 0), .v (.int .i64 0), .v (.slice none 0 0), .v (.slice none 0 0)] [(0, 1, (.c (.v (.int .i64 1)))), (1, 1, (.c (.v (.int .i64 0)))), (2, 1, (.c (.v (.int .i64 1)))), (3, 1, (.t 69))] },
  { dst := some 71, op := .call 22 [(.t 70)] },
  { dst := some 13, op := .move (.t 71) }])
 (.seq (.region [{ dst := some 73, op := .load true 11 (.t 4) },
  { dst := some 74, op := .move (.t 13) },
  { dst := some 75, op := .call 23 [(.t 73), (.t 74)] },
  { dst := some 72, op := .move (.t 75) },
  { dst := some 76, op := .ext (.t 72) 0 },
  { dst := some 77, op := .ext (.t 72) 1 },
  { dst := some 78, op := .ext (.t 72) 2 },
  { dst := some 14, op := .alloc 32 [.v (.int .i64 0), .v (.int .i64 0), .v (.slice none 0 0), .v (.slice none 0 0), .v (.slice none 0 0), .v (.slice none 0 0), .v (.slice none 0 0), .v (.slice none 0 0), .v (.int .i64 0), .v (.int .i64 0), .v (.int .i64 0)] },
  { dst := none, op := .store 11 (.t 14) (.t 76) },
  { dst := some 15, op := .move (.t 77) },
  { dst := some 16, op := .move (.t 78) }])
 (.seq (.seq (.region [{ dst := some 79, op := .move (.t 16) },
  { dst := some 80, op := .call 9 [(.t 79)] },
  { dst := some 81, op := .bin .neq (.t 80) (.c (.v (.int .i64 0))) },
  { dst := some 82, op := .move (.t 81) },
  { dst := some 83, op := .load true 11 (.t 14), guard := some (82, false) },
  { dst := some 84, op := .load true 11 (.t 4), guard := some (82, false) },
  { dst := some 85, op := .call 11 [(.t 83), (.t 84)], guard := some (82, false) },
  { dst := some 86, op := .un .not (.t 85), guard := some (82, false) },
  { dst := some 87, op := .pick (.t 82) (.c (.v (.bool true))) (.t 86) }])
 (.cond (.t 87) (.seq (.region [{ dst := some 2, op := .move (.c (.v (.bool false))) }])
 .ret) .skip))
 (.seq (.region [{ dst := some 88, op := .move (.t 3) },
  { dst := some 89, op := .faddr 3 (.t 6) },
  { dst := some 90, op := .load false 1 (.t 89) },
  { dst := some 91, op := .len (.t 90) },
  { dst := some 92, op := .bin .sub (.t 88) (.t 91) },
  { dst := some 17, op := .move (.t 92) }])
 (.seq (.seq (.region [{ dst := some 93, op := .move (.t 17) },
  { dst := some 94, op := .bin .eql (.t 93) (.c (.v (.int .i64 0))) }])
 (.cond (.t 94) (.seq (.seq (.region [{ dst := some 95, op := .move (.t 15) },
  { dst := some 96, op := .len (.t 95) },
  { dst := some 97, op := .bin .gtr (.t 96) (.c (.v (.int .i64 0))) }])
 (.cond (.t 97) (.seq (.region [{ dst := some 2, op := .move (.c (.v (.bool false))) }])
 .ret) .skip))
 (.exit 2)) .skip))
 (.seq (.region [{ dst := some 99, op := .move (.t 15) },
  { dst := some 100, op := .call 24 [(.t 99)] },
  { dst := some 98, op := .move (.t 100) },
  { dst := some 101, op := .ext (.t 98) 0 },
  { dst := some 102, op := .ext (.t 98) 1 },
  { dst := some 18, op := .alloc 67 [.v (.int .i64 0), .v (.int .i64 0), .v (.int .i64 0), .v (.slice none 0 0), .v (.slice none 0 0)] },
  { dst := none, op := .store 5 (.t 18) (.t 101) },
  { dst := some 19, op := .move (.t 102) }])
 (.seq (.seq (.region [{ dst := some 103, op := .move (.t 19) },
  { dst := some 104, op := .bin .neq (.t 103) (.c (.v (.int .i64 0))) },
  { dst := some 105, op := .move (.t 104) },
  { dst := some 106, op := .faddr 4 (.t 18), guard := some (105, false) },
  { dst := some 107, op := .load false 1 (.t 106), guard := some (105, false) },
  { dst := some 108, op := .len (.t 107), guard := some (105, false) },
  { dst := some 109, op := .move (.t 17), guard := some (105, false) },
  { dst := some 110, op := .min [(.t 109), (.c (.v (.int .i64 8)))], guard := some (105, false) },
  { dst := some 111, op := .bin .neq (.t 108) (.t 110), guard := some (105, false) },
  { dst := some 112, op := .pick (.t 105) (.c (.v (.bool true))) (.t 111) },
  { dst := some 113, op := .move (.t 112) },
  { dst := some 114, op := .faddr 1 (.t 18), guard := some (113, false) },
  { dst := some 115, op := .load false 1 (.t 114), guard := some (113, false) },
  { dst := some 116, op := .bin .neq (.t 115) (.c (.v (.int .i64 1))), guard := some (113, false) },
  { dst := some 117, op := .pick (.t 113) (.c (.v (.bool true))) (.t 116) }])
 (.cond (.t 117) (.seq (.region [{ dst := some 2, op := .move (.c (.v (.bool false))) }])
 .ret) .skip))
 (.seq (.region [{ dst := some 119, op := .load true 11 (.t 6) },
  { dst := some 120, op := .move (.t 15) },
  { dst := some 121, op := .call 23 [(.t 119), (.t 120)] },
  { dst := some 118, op := .move (.t 121) },
  { dst := some 122, op := .ext (.t 118) 0 },
  { dst := some 123, op := .ext (.t 118) 1 },
  { dst := some 124, op := .ext (.t 118) 2 },
  { dst := some 20, op := .alloc 32 [.v (.int .i64 0), .v (.int .i64 0), .v (.slice none 0 0), .v (.slice none 0 0), .v (.slice none 0 0), .v (.slice none 0 0), .v (.slice none 0 0), .v (.slice none 0 0), .v (.int .i64 0), .v (.int .i64 0), .v (.int .i64 0)] },
  { dst := none, op := .store 11 (.t 20) (.t 122) },
  { dst := some 21, op := .move (.t 123) },
  { dst := some 22, op := .move (.t 124) }])
 (.seq (.seq (.region [{ dst := some 125, op := .move (.t 22) },
  { dst := some 126, op := .call 9 [(.t 125)] },
  { dst := some 127, op := .bin .neq (.t 126) (.c (.v (.int .i64 0))) },
  { dst := some 128, op := .move (.t 127) },
  { dst := some 129, op := .move (.t 21), guard := some (128, false) },
  { dst := some 130, op := .len (.t 129), guard := some (128, false) },
  { dst := some 131, op := .bin .gtr (.t 130) (.c (.v (.int .i64 0))), guard := some (128, false) },
  { dst := some 132, op := .pick (.t 128) (.c (.v (.bool true))) (.t 131) },
  { dst := some 133, op := .move (.t 132) },
  { dst := some 134, op := .faddr 3 (.t 20), guard := some (133, false) },
  { dst := some 135, op := .load false 1 (.t 134), guard := some (133, false) },
  { dst := some 136, op := .len (.t 135), guard := some (133, false) },
  { dst := some 137, op := .faddr 3 (.t 6), guard := some (133, false) },
  { dst := some 138, op := .load false 1 (.t 137), guard := some (133, false) },
  { dst := some 139, op := .len (.t 138), guard := some (133, false) },
  { dst := some 140, op := .faddr 4 (.t 18), guard := some (133, false) },
  { dst := some 141, op := .load false 1 (.t 140), guard := some (133, false) },
  { dst := some 142, op := .len (.t 141), guard := some (133, false) },
  { dst := some 143, op := .bin .add (.t 139) (.t 142), guard := some (133, false) },
  { dst := some 144, op := .bin .neq (.t 136) (.t 143), guard := some (133, false) },
  { dst := some 145, op := .pick (.t 133) (.c (.v (.bool true))) (.t 144) }])
 (.cond (.t 145) (.seq (.region [{ dst := some 2, op := .move (.c (.v (.bool false))) }])
 .ret) .skip))
 (.region [{ dst := some 146, op := .load true 11 (.t 20) },
  { dst := none, op := .store 11 (.t 6) (.t 146) }])))))))))))
 (.region [{ dst := some 66, op := .move (.t 12) },
  { dst := some 67, op := .bin .add (.t 66) (.c (.v (.int .i64 1))) },
  { dst := some 12, op := .move (.t 67) }]))))))
 (.seq (.region [{ dst := some 147, op := .faddr 3 (.t 6) },
  { dst := some 148, op := .load false 1 (.t 147) },
  { dst := some 149, op := .len (.t 148) },
  { dst := some 150, op := .move (.t 3) },
  { dst := some 151, op := .bin .eql (.t 149) (.t 150) },
  { dst := some 152, op := .move (.t 151) },
  { dst := some 153, op := .faddr 5 (.t 6), guard := some (152, true) },
  { dst := some 154, op := .load true 3 (.t 153), guard := some (152, true) },
  { dst := some 155, op := .faddr 5 (.t 4), guard := some (152, true) },
  { dst := some 156, op := .load true 3 (.t 155), guard := some (152, true) },
  { dst := some 157, op := .call 25 [(.t 154), (.t 156)], guard := some (152, true) },
  { dst := some 158, op := .pick (.t 152) (.t 157) (.c (.v (.bool false))) },
  { dst := some 159, op := .move (.t 158) },
  { dst := some 160, op := .load true 11 (.t 6), guard := some (159, true) },
  { dst := some 161, op := .call 26 [(.t 160)], guard := some (159, true) },
  { dst := some 162, op := .pick (.t 159) (.t 161) (.c (.v (.bool false))) },
  { dst := some 163, op := .move (.t 162) },
  { dst := some 164, op := .call 12 [], guard := some (163, true) },
  { dst := some 165, op := .pick (.t 163) (.t 164) (.c (.v (.bool false))) },
  { dst := some 2, op := .move (.t 165) }])
 .ret))))))))⟩
/-- arras.replica.New -/
def F8 : AFun := ⟨true, 14, [.cell 4 true 11, .t 5], (.seq (.region [{ dst := some 4, op := .alloc 32 [.v (.int .i64 0), .v (.int .i64 0), .v (.slice none 0 0), .v (.slice none 0 0), .v (.slice none 0 0), .v (.slice none 0 0), .v (.slice none 0 0), .v (.slice none 0 0), .v (.int .i64 0), .v (.int .i64 0), .v (.int .i64 0)] },
  { dst := some 5, op := .move (.c (.v (.int .i64 0))) }])
 (.seq (.seq (.region [{ dst := some 6, op := .move (.t 0) },
  { dst := some 7, op := .move (.t 1) },
  { dst := some 8, op := .call 39 [(.t 6), (.t 7)] },
  { dst := some 9, op := .un .not (.t 8) }])
 (.cond (.t 9) (.seq (.region [{ dst := some 10, op := .build [.v (.int .i64 0), .v (.int .i64 0), .v (.slice none 0 0), .v (.slice none 0 0), .v (.slice none 0 0), .v (.slice none 0 0), .v (.slice none 0 0), .v (.slice none 0 0), .v (.int .i64 0), .v (.int .i64 0), .v (.int .i64 0)] [] },
  { dst := none, op := .store 11 (.t 4) (.t 10) },
  { dst := some 5, op := .move (.c (.v (.int .i64 1))) }])
 .ret) .skip))
 (.seq (.region [{ dst := some 11, op := .move (.t 0) },
  { dst := some 12, op := .move (.t 1) },
  { dst := some 13, op := .call 40 [(.t 11), (.t 12)] },
  { dst := none, op := .store 11 (.t 4) (.t 13) },
  { dst := some 5, op := .move (.c (.v (.int .i64 0))) }])
 .ret)))⟩
/-- arras.arraslaw26.num -/
def F9 : AFun := ⟨true, 4, [.t 2], (.seq (.region [{ dst := some 2, op := .move (.c (.v (.int .i64 0))) }])
 (.seq (.region [{ dst := some 3, op := .move (.t 0) },
  { dst := some 2, op := .move (.t 3) }])
 .ret))⟩
/-- arras.replica.Do -/
def F10 : AFun := ⟨true, 22, [.cell 4 true 11, .cell 5 true 9, .t 6], (.seq (.region [{ dst := some 2, op := .box 32 11 (.t 0) },
  { dst := some 3, op := .box 51 10 (.t 1) },
  { dst := some 4, op := .alloc 32 [.v (.int .i64 0), .v (.int .i64 0), .v (.slice none 0 0), .v (.slice none 0 0), .v (.slice none 0 0), .v (.slice none 0 0), .v (.slice none 0 0), .v (.slice none 0 0), .v (.int .i64 0), .v (.int .i64 0), .v (.int .i64 0)] },
  { dst := some 5, op := .alloc 47 [.v (.int .i64 0), .v (.int .i64 0), .v (.int .i64 0), .v (.slice none 0 0), .v (.int .i64 0), .v (.int .i64 0), .v (.complex .f64 0 0), .v (.complex .f64 0 0), .v (.slice none 0 0)] },
  { dst := some 6, op := .move (.c (.v (.int .i64 0))) }])
 (.seq (.seq (.region [{ dst := some 9, op := .load true 11 (.t 2) },
  { dst := some 10, op := .call 41 [(.t 9)] },
  { dst := some 11, op := .un .not (.t 10) }])
 (.cond (.t 11) (.seq (.region [{ dst := some 12, op := .build [.v (.int .i64 0), .v (.int .i64 0), .v (.slice none 0 0), .v (.slice none 0 0), .v (.slice none 0 0), .v (.slice none 0 0), .v (.slice none 0 0), .v (.slice none 0 0), .v (.int .i64 0), .v (.int .i64 0), .v (.int .i64 0)] [] },
  { dst := some 13, op := .build [.v (.int .i64 0), .v (.int .i64 0), .v (.int .i64 0), .v (.slice none 0 0), .v (.int .i64 0), .v (.int .i64 0), .v (.complex .f64 0 0), .v (.complex .f64 0 0), .v (.slice none 0 0)] [] },
  { dst := none, op := .store 11 (.t 4) (.t 12) },
  { dst := none, op := .store 9 (.t 5) (.t 13) },
  { dst := some 6, op := .move (.c (.v (.int .i64 1))) }])
 .ret) .skip))
 (.seq (.region [{ dst := some 15, op := .load true 11 (.t 2) },
  { dst := some 16, op := .load true 10 (.t 3) },
  { dst := some 17, op := .call 42 [(.t 15), (.t 16)] },
  { dst := some 14, op := .move (.t 17) },
  { dst := some 18, op := .ext (.t 14) 0 },
  { dst := some 19, op := .ext (.t 14) 1 },
  { dst := some 7, op := .alloc 32 [.v (.int .i64 0), .v (.int .i64 0), .v (.slice none 0 0), .v (.slice none 0 0), .v (.slice none 0 0), .v (.slice none 0 0), .v (.slice none 0 0), .v (.slice none 0 0), .v (.int .i64 0), .v (.int .i64 0), .v (.int .i64 0)] },
  { dst := some 8, op := .alloc 47 [.v (.int .i64 0), .v (.int .i64 0), .v (.int .i64 0), .v (.slice none 0 0), .v (.int .i64 0), .v (.int .i64 0), .v (.complex .f64 0 0), .v (.complex .f64 0 0), .v (.slice none 0 0)] },
  { dst := none, op := .store 11 (.t 7) (.t 18) },
  { dst := none, op := .store 9 (.t 8) (.t 19) }])
 (.seq (.dregion [{ dst := some 20, op := .load true 11 (.t 7) },
  { dst := some 21, op := .load true 9 (.t 8) },
  { dst := none, op := .store 11 (.t 4) (.t 20), un := [1] },
  { dst := none, op := .store 9 (.t 5) (.t 21) },
  { dst := some 6, op := .move (.c (.v (.int .i64 0))) }])
 .ret))))⟩
/-- arras.arrasref0.EqState -/
def F11 : AFun := ⟨true, 66, [.t 4], (.seq (.region [{ dst := some 2, op := .box 32 11 (.t 0) },
  { dst := some 3, op := .box 32 11 (.t 1) },
  { dst := some 4, op := .move (.c (.v (.bool false))) }])
 (.seq (.region [{ dst := some 5, op := .faddr 0 (.t 2) },
  { dst := some 6, op := .load false 1 (.t 5) },
  { dst := some 7, op := .faddr 0 (.t 3) },
  { dst := some 8, op := .load false 1 (.t 7) },
  { dst := some 9, op := .bin .eql (.t 6) (.t 8) },
  { dst := some 10, op := .move (.t 9) },
  { dst := some 11, op := .faddr 1 (.t 2), guard := some (10, true) },
  { dst := some 12, op := .load false 1 (.t 11), guard := some (10, true) },
  { dst := some 13, op := .faddr 1 (.t 3), guard := some (10, true) },
  { dst := some 14, op := .load false 1 (.t 13), guard := some (10, true) },
  { dst := some 15, op := .bin .eql (.t 12) (.t 14), guard := some (10, true) },
  { dst := some 16, op := .pick (.t 10) (.t 15) (.c (.v (.bool false))) },
  { dst := some 17, op := .move (.t 16) },
  { dst := some 18, op := .faddr 2 (.t 2), guard := some (17, true) },
  { dst := some 19, op := .load false 1 (.t 18), guard := some (17, true) },
  { dst := some 20, op := .faddr 2 (.t 3), guard := some (17, true) },
  { dst := some 21, op := .load false 1 (.t 20), guard := some (17, true) },
  { dst := some 22, op := .call 43 [(.t 19), (.t 21)], guard := some (17, true) },
  { dst := some 23, op := .pick (.t 17) (.t 22) (.c (.v (.bool false))) },
  { dst := some 24, op := .move (.t 23) },
  { dst := some 25, op := .faddr 3 (.t 2), guard := some (24, true) },
  { dst := some 26, op := .load false 1 (.t 25), guard := some (24, true) },
  { dst := some 27, op := .faddr 3 (.t 3), guard := some (24, true) },
  { dst := some 28, op := .load false 1 (.t 27), guard := some (24, true) },
  { dst := some 29, op := .call 19 [(.t 26), (.t 28)], guard := some (24, true) },
  { dst := some 30, op := .pick (.t 24) (.t 29) (.c (.v (.bool false))) },
  { dst := some 31, op := .move (.t 30) },
  { dst := some 32, op := .faddr 4 (.t 2), guard := some (31, true) },
  { dst := some 33, op := .load false 1 (.t 32), guard := some (31, true) },
  { dst := some 34, op := .faddr 4 (.t 3), guard := some (31, true) },
  { dst := some 35, op := .load false 1 (.t 34), guard := some (31, true) },
  { dst := some 36, op := .call 19 [(.t 33), (.t 35)], guard := some (31, true) },
  { dst := some 37, op := .pick (.t 31) (.t 36) (.c (.v (.bool false))) },
  { dst := some 38, op := .move (.t 37) },
  { dst := some 39, op := .faddr 5 (.t 2), guard := some (38, true) },
  { dst := some 40, op := .load true 3 (.t 39), guard := some (38, true) },
  { dst := some 41, op := .faddr 5 (.t 3), guard := some (38, true) },
  { dst := some 42, op := .load true 3 (.t 41), guard := some (38, true) },
  { dst := some 43, op := .call 25 [(.t 40), (.t 42)], guard := some (38, true) },
  { dst := some 44, op := .pick (.t 38) (.t 43) (.c (.v (.bool false))) },
  { dst := some 45, op := .move (.t 44) },
  { dst := some 46, op := .faddr 8 (.t 2), guard := some (45, true) },
  { dst := some 47, op := .load false 1 (.t 46), guard := some (45, true) },
  { dst := some 48, op := .faddr 8 (.t 3), guard := some (45, true) },
  { dst := some 49, op := .load false 1 (.t 48), guard := some (45, true) },
  { dst := some 50, op := .bin .eql (.t 47) (.t 49), guard := some (45, true) },
  { dst := some 51, op := .pick (.t 45) (.t 50) (.c (.v (.bool false))) },
  { dst := some 52, op := .move (.t 51) },
  { dst := some 53, op := .faddr 9 (.t 2), guard := some (52, true) },
  { dst := some 54, op := .load false 1 (.t 53), guard := some (52, true) },
  { dst := some 55, op := .faddr 9 (.t 3), guard := some (52, true) },
  { dst := some 56, op := .load false 1 (.t 55), guard := some (52, true) },
  { dst := some 57, op := .bin .eql (.t 54) (.t 56), guard := some (52, true) },
  { dst := some 58, op := .pick (.t 52) (.t 57) (.c (.v (.bool false))) },
  { dst := some 59, op := .move (.t 58) },
  { dst := some 60, op := .faddr 10 (.t 2), guard := some (59, true) },
  { dst := some 61, op := .load false 1 (.t 60), guard := some (59, true) },
  { dst := some 62, op := .faddr 10 (.t 3), guard := some (59, true) },
  { dst := some 63, op := .load false 1 (.t 62), guard := some (59, true) },
  { dst := some 64, op := .bin .eql (.t 61) (.t 63), guard := some (59, true) },
  { dst := some 65, op := .pick (.t 59) (.t 64) (.c (.v (.bool false))) },
  { dst := some 4, op := .move (.t 65) }])
 .ret))⟩
/-- arras.arraslaw26.wakes -/
def F12 : AFun := ⟨true, 41, [.t 0], (.seq (.region [{ dst := some 0, op := .move (.c (.v (.bool false))) }])
 (.seq (.region [{ dst := some 6, op := .call 8 [(.c (.v (.int .i64 0))), (.c (.v (.int .i64 1)))] },
  { dst := some 5, op := .move (.t 6) },
  { dst := some 7, op := .ext (.t 5) 0 },
  { dst := some 8, op := .ext (.t 5) 1 },
  { dst := some 1, op := .alloc 32 [.v (.int .i64 0), .v (.int .i64 0), .v (.slice none 0 0), .v (.slice none 0 0), .v (.slice none 0 0), .v (.slice none 0 0), .v (.slice none 0 0), .v (.slice none 0 0), .v (.int .i64 0), .v (.int .i64 0), .v (.int .i64 0)] },
  { dst := none, op := .store 11 (.t 1) (.t 7) },
  { dst := some 2, op := .move (.t 8) }])
 (.seq (.region [{ dst := some 10, op := .load true 11 (.t 1) },
  { dst := some 11, op := .build [.v (.int .i64 0), .v (.int .i64 0), .v (.int .i64 0), .v (.int .i64 0), .v (.int .i64 0), .v (.int .i64 0), .v (.int .i64 0), .v (.int .i64 0), .v (.int .i64 0), .v (.int .i64 0)] [(0, 1, (.c (.v (.int .i64 1))))] },
  { dst := some 12, op := .call 10 [(.t 10), (.t 11)] },
  { dst := some 9, op := .move (.t 12) },
  { dst := some 13, op := .ext (.t 9) 0 },
  { dst := some 14, op := .ext (.t 9) 1 },
  { dst := some 15, op := .ext (.t 9) 2 },
  { dst := some 3, op := .alloc 47 [.v (.int .i64 0), .v (.int .i64 0), .v (.int .i64 0), .v (.slice none 0 0), .v (.int .i64 0), .v (.int .i64 0), .v (.complex .f64 0 0), .v (.complex .f64 0 0), .v (.slice none 0 0)] },
  { dst := none, op := .store 11 (.t 1) (.t 13) },
  { dst := none, op := .store 9 (.t 3) (.t 14) },
  { dst := some 4, op := .move (.t 15) }])
 (.seq (.region [{ dst := some 16, op := .move (.t 2) },
  { dst := some 17, op := .call 9 [(.t 16)] },
  { dst := some 18, op := .bin .eql (.t 17) (.c (.v (.int .i64 0))) },
  { dst := some 19, op := .move (.t 18) },
  { dst := some 20, op := .move (.t 4), guard := some (19, true) },
  { dst := some 21, op := .call 9 [(.t 20)], guard := some (19, true) },
  { dst := some 22, op := .bin .eql (.t 21) (.c (.v (.int .i64 0))), guard := some (19, true) },
  { dst := some 23, op := .pick (.t 19) (.t 22) (.c (.v (.bool false))) },
  { dst := some 24, op := .move (.t 23) },
  { dst := some 25, op := .faddr 0 (.t 3), guard := some (24, true) },
  { dst := some 26, op := .load false 1 (.t 25), guard := some (24, true) },
  { dst := some 27, op := .bin .eql (.t 26) (.c (.v (.int .i64 0))), guard := some (24, true) },
  { dst := some 28, op := .pick (.t 24) (.t 27) (.c (.v (.bool false))) },
  { dst := some 29, op := .move (.t 28) },
  { dst := some 30, op := .faddr 1 (.t 3), guard := some (29, true) },
  { dst := some 31, op := .load true 2 (.t 30), guard := some (29, true) },
  { dst := some 32, op := .build [.v (.int .i64 0), .v (.int .i64 0)] [(0, 1, (.c (.v (.int .i64 1))))], guard := some (29, true) },
  { dst := some 33, op := .eqAgg false [1, 1] (.t 31) (.t 32), guard := some (29, true) },
  { dst := some 34, op := .pick (.t 29) (.t 33) (.c (.v (.bool false))) },
  { dst := some 35, op := .move (.t 34) },
  { dst := some 36, op := .faddr 3 (.t 1), guard := some (35, true) },
  { dst := some 37, op := .load false 1 (.t 36), guard := some (35, true) },
  { dst := some 38, op := .len (.t 37), guard := some (35, true) },
  { dst := some 39, op := .bin .eql (.t 38) (.c (.v (.int .i64 1))), guard := some (35, true) },
  { dst := some 40, op := .pick (.t 35) (.t 39) (.c (.v (.bool false))) },
  { dst := some 0, op := .move (.t 40) }])
 .ret))))⟩
/-- arras.arrasref25.Reps -/
def F14 : AFun := ⟨true, 17, [.t 4], (.seq (.region [{ dst := some 4, op := .move (.c (.v (.bool false))) }])
 (.seq (.region [{ dst := some 5, op := .move (.t 1) },
  { dst := some 6, op := .bin .geq (.t 5) (.c (.v (.int .i64 1))) },
  { dst := some 7, op := .move (.t 6) },
  { dst := some 8, op := .move (.t 1), guard := some (7, true) },
  { dst := some 9, op := .bin .leq (.t 8) (.c (.v (.int .i64 16))), guard := some (7, true) },
  { dst := some 10, op := .pick (.t 7) (.t 9) (.c (.v (.bool false))) },
  { dst := some 11, op := .move (.t 10) },
  { dst := some 12, op := .move (.t 0), guard := some (11, true) },
  { dst := some 13, op := .move (.t 1), guard := some (11, true) },
  { dst := some 14, op := .bin .sub (.t 13) (.c (.v (.int .i64 1))), guard := some (11, true) },
  { dst := some 15, op := .call 46 [(.t 12), (.t 14)], guard := some (11, true) },
  { dst := some 16, op := .pick (.t 11) (.t 15) (.c (.v (.bool false))) },
  { dst := some 4, op := .move (.t 16) }])
 .ret))⟩
/-- arras.arrasref25.New -/
def F15 : AFun := ⟨false, 9, [.cell 4 true 11], (.seq (.region [{ dst := some 4, op := .alloc 32 [.v (.int .i64 0), .v (.int .i64 0), .v (.slice none 0 0), .v (.slice none 0 0), .v (.slice none 0 0), .v (.slice none 0 0), .v (.slice none 0 0), .v (.slice none 0 0), .v (.int .i64 0), .v (.int .i64 0), .v (.int .i64 0)] }])
 (.seq (.region [{ dst := some 5, op := .move (.t 0) },
  { dst := some 6, op := .move (.t 1) },
  { dst := some 7, op := .mkslice 3 1 8 [.v (.int .i64 0)] (.t 6) (.t 6) },
  { dst := some 8, op := .build [.v (.int .i64 0), .v (.int .i64 0), .v (.slice none 0 0), .v (.slice none 0 0), .v (.slice none 0 0), .v (.slice none 0 0), .v (.slice none 0 0), .v (.slice none 0 0), .v (.int .i64 0), .v (.int .i64 0), .v (.int .i64 0)] [(0, 1, (.t 5)), (2, 1, (.t 7))] },
  { dst := none, op := .store 11 (.t 4) (.t 8) }])
 .ret))⟩
/-- arras.arrasref0.CopyOps -/
def F16 : AFun := ⟨false, 20, [.t 2], (.seq (.region [{ dst := some 2, op := .move (.c (.v (.slice none 0 0))) }])
 (.seq (.region [{ dst := some 3, op := .move (.c (.v (.slice none 0 0))) }])
 (.seq (.seq (.region [{ dst := some 4, op := .move (.c (.v (.int .i64 0))) }])
 (.block 0 (.loop (.seq (.seq (.region [{ dst := some 5, op := .move (.t 4) },
  { dst := some 6, op := .move (.t 0) },
  { dst := some 7, op := .len (.t 6) },
  { dst := some 8, op := .bin .lss (.t 5) (.t 7) }])
 (.cond (.t 8) .skip (.exit 0)))
 (.seq (.block 1 (.region [{ dst := some 11, op := .move (.t 3) },
  { dst := some 12, op := .move (.t 0) },
  { dst := some 13, op := .move (.t 4) },
  { dst := some 14, op := .iaddr 12 (.t 12) (.t 13) },
  { dst := some 15, op := .load true 12 (.t 14) },
  { dst := some 16, op := .call 47 [(.t 15)] },
  { dst := some 17, op := .buildSlice 75 12 1 [.v (.int .i64 0), .v (.int .i64 0), .v (.int .i64 0), .v (.slice none 0 0), .v (.int .i64 0), .v (.int .i64 0), .v (.int .i64 0), .v (.int .i64 0), .v (.int .i64 0), .v (.string ⟨#[]⟩), .v (.int .i64 0), .v (.int .i64 0)] [(0, 12, (.t 16))] },
  { dst := some 18, op := .append 75 12 120 (.t 11) (.t 17) },
  { dst := some 3, op := .move (.t 18) }]))
 (.region [{ dst := some 9, op := .move (.t 4) },
  { dst := some 10, op := .bin .add (.t 9) (.c (.v (.int .i64 1))) },
  { dst := some 4, op := .move (.t 10) }]))))))
 (.seq (.region [{ dst := some 19, op := .move (.t 3) },
  { dst := some 2, op := .move (.t 19) }])
 .ret))))⟩
/-- arras.arrasref25.Restore -/
def F18 : AFun := ⟨true, 58, [.cell 6 true 11, .t 7], (.seq (.region [{ dst := some 6, op := .alloc 32 [.v (.int .i64 0), .v (.int .i64 0), .v (.slice none 0 0), .v (.slice none 0 0), .v (.slice none 0 0), .v (.slice none 0 0), .v (.slice none 0 0), .v (.slice none 0 0), .v (.int .i64 0), .v (.int .i64 0), .v (.int .i64 0)] },
  { dst := some 7, op := .move (.c (.v (.bool false))) }])
 (.seq (.seq (.region [{ dst := some 10, op := .move (.t 0) },
  { dst := some 11, op := .move (.t 1) },
  { dst := some 12, op := .call 14 [(.t 10), (.t 11)] },
  { dst := some 13, op := .un .not (.t 12) },
  { dst := some 14, op := .move (.t 13) },
  { dst := some 15, op := .move (.t 2), guard := some (14, false) },
  { dst := some 16, op := .move (.t 1), guard := some (14, false) },
  { dst := some 17, op := .call 49 [(.t 15), (.t 16)], guard := some (14, false) },
  { dst := some 18, op := .un .not (.t 17), guard := some (14, false) },
  { dst := some 19, op := .pick (.t 14) (.c (.v (.bool true))) (.t 18) }])
 (.cond (.t 19) (.seq (.region [{ dst := some 20, op := .build [.v (.int .i64 0), .v (.int .i64 0), .v (.slice none 0 0), .v (.slice none 0 0), .v (.slice none 0 0), .v (.slice none 0 0), .v (.slice none 0 0), .v (.slice none 0 0), .v (.int .i64 0), .v (.int .i64 0), .v (.int .i64 0)] [] },
  { dst := none, op := .store 11 (.t 6) (.t 20) },
  { dst := some 7, op := .move (.c (.v (.bool false))) }])
 .ret) .skip))
 (.seq (.region [{ dst := some 21, op := .move (.t 0) },
  { dst := some 22, op := .move (.t 1) },
  { dst := some 23, op := .call 15 [(.t 21), (.t 22)] },
  { dst := some 8, op := .alloc 32 [.v (.int .i64 0), .v (.int .i64 0), .v (.slice none 0 0), .v (.slice none 0 0), .v (.slice none 0 0), .v (.slice none 0 0), .v (.slice none 0 0), .v (.slice none 0 0), .v (.int .i64 0), .v (.int .i64 0), .v (.int .i64 0)] },
  { dst := none, op := .store 11 (.t 8) (.t 23) }])
 (.seq (.seq (.region [{ dst := some 9, op := .move (.c (.v (.int .i64 0))) }])
 (.block 0 (.loop (.seq (.seq (.region [{ dst := some 24, op := .move (.t 9) },
  { dst := some 25, op := .move (.t 2) },
  { dst := some 26, op := .len (.t 25) },
  { dst := some 27, op := .bin .lss (.t 24) (.t 26) }])
 (.cond (.t 27) .skip (.exit 0)))
 (.seq (.block 1 (.seq (.seq (.dregion [{ dst := some 30, op := .faddr 2 (.t 8) },
  { dst := some 31, op := .load false 1 (.t 30) },
  { dst := some 32, op := .move (.t 2) },
  { dst := some 33, op := .move (.t 9) },
  { dst := some 34, op := .iaddr 12 (.t 32) (.t 33) },
  { dst := some 35, op := .load true 12 (.t 34) },
  { dst := some 36, op := .call 50 [(.t 31), (.t 35)] },
  { dst := some 37, op := .un .not (.t 36) }])
 (.cond (.t 37) (.seq (.region [{ dst := some 38, op := .build [.v (.int .i64 0), .v (.int .i64 0), .v (.slice none 0 0), .v (.slice none 0 0), .v (.slice none 0 0), .v (.slice none 0 0), .v (.slice none 0 0), .v (.slice none 0 0), .v (.int .i64 0), .v (.int .i64 0), .v (.int .i64 0)] [] },
  { dst := none, op := .store 11 (.t 6) (.t 38) },
  { dst := some 7, op := .move (.c (.v (.bool false))) }])
 .ret) .skip))
 (.seq (.dregion [{ dst := some 39, op := .faddr 2 (.t 8) },
  { dst := some 40, op := .load false 1 (.t 39) },
  { dst := some 41, op := .move (.t 2) },
  { dst := some 42, op := .move (.t 9) },
  { dst := some 43, op := .iaddr 12 (.t 41) (.t 42) },
  { dst := some 44, op := .faddr 0 (.t 43) },
  { dst := some 45, op := .faddr 1 (.t 44) },
  { dst := some 46, op := .load false 1 (.t 45) },
  { dst := some 47, op := .iaddr 1 (.t 40) (.t 46) },
  { dst := some 48, op := .load false 1 (.t 47) },
  { dst := some 49, op := .bin .add (.t 48) (.c (.v (.int .i64 1))) },
  { dst := some 50, op := .iaddr 1 (.t 40) (.t 46) },
  { dst := none, op := .store 1 (.t 50) (.t 49) }])
 (.dregion [{ dst := some 51, op := .load true 11 (.t 8) },
  { dst := some 52, op := .move (.t 2) },
  { dst := some 53, op := .move (.t 9) },
  { dst := some 54, op := .iaddr 12 (.t 52) (.t 53) },
  { dst := some 55, op := .load true 12 (.t 54) },
  { dst := some 56, op := .call 51 [(.t 51), (.t 55)] },
  { dst := none, op := .store 11 (.t 8) (.t 56) }]))))
 (.region [{ dst := some 28, op := .move (.t 9) },
  { dst := some 29, op := .bin .add (.t 28) (.c (.v (.int .i64 1))) },
  { dst := some 9, op := .move (.t 29) }]))))))
 (.seq (.region [{ dst := some 57, op := .load true 11 (.t 8) },
  { dst := none, op := .store 11 (.t 6) (.t 57) },
  { dst := some 7, op := .move (.c (.v (.bool true))) }])
 .ret)))))⟩
/-- arras.arrasref0.EqOps -/
def F19 : AFun := ⟨true, 27, [.t 4], (.seq (.region [{ dst := some 4, op := .move (.c (.v (.bool false))) }])
 (.seq (.seq (.region [{ dst := some 6, op := .move (.t 0) },
  { dst := some 7, op := .len (.t 6) },
  { dst := some 8, op := .move (.t 1) },
  { dst := some 9, op := .len (.t 8) },
  { dst := some 10, op := .bin .neq (.t 7) (.t 9) }])
 (.cond (.t 10) (.seq (.region [{ dst := some 4, op := .move (.c (.v (.bool false))) }])
 .ret) .skip))
 (.seq (.seq (.region [{ dst := some 5, op := .move (.c (.v (.int .i64 0))) }])
 (.block 0 (.loop (.seq (.seq (.region [{ dst := some 11, op := .move (.t 5) },
  { dst := some 12, op := .move (.t 0) },
  { dst := some 13, op := .len (.t 12) },
  { dst := some 14, op := .bin .lss (.t 11) (.t 13) }])
 (.cond (.t 14) .skip (.exit 0)))
 (.seq (.block 1 (.seq (.dregion [{ dst := some 17, op := .move (.t 0) },
  { dst := some 18, op := .move (.t 5) },
  { dst := some 19, op := .iaddr 12 (.t 17) (.t 18) },
  { dst := some 20, op := .load true 12 (.t 19) },
  { dst := some 21, op := .move (.t 1) },
  { dst := some 22, op := .move (.t 5) },
  { dst := some 23, op := .iaddr 12 (.t 21) (.t 22) },
  { dst := some 24, op := .load true 12 (.t 23) },
  { dst := some 25, op := .call 52 [(.t 20), (.t 24)] },
  { dst := some 26, op := .un .not (.t 25) }])
 (.cond (.t 26) (.seq (.region [{ dst := some 4, op := .move (.c (.v (.bool false))) }])
 .ret) .skip)))
 (.region [{ dst := some 15, op := .move (.t 5) },
  { dst := some 16, op := .bin .add (.t 15) (.c (.v (.int .i64 1))) },
  { dst := some 5, op := .move (.t 16) }]))))))
 (.seq (.region [{ dst := some 4, op := .move (.c (.v (.bool true))) }])
 .ret))))⟩
/-- arras.arraslaw0.Within -/
def F21 : AFun := ⟨true, 11, [.t 4], (.seq (.region [{ dst := some 4, op := .move (.c (.v (.int .i64 0))) }])
 (.seq (.region [{ dst := some 5, op := .move (.t 0) },
  { dst := some 6, op := .conv .u64 (.t 5) },
  { dst := some 7, op := .move (.t 1) },
  { dst := some 8, op := .conv .u64 (.t 7) },
  { dst := some 9, op := .bin .rem (.t 6) (.t 8) },
  { dst := some 10, op := .conv .i64 (.t 9) },
  { dst := some 4, op := .move (.t 10) }])
 .ret))⟩
/-- arras.arrasref10.FrameBytes -/
def F22 : AFun := ⟨true, 63, [.t 2], (.seq (.region [{ dst := some 1, op := .box 67 5 (.t 0) },
  { dst := some 2, op := .move (.c (.v (.slice none 0 0))) }])
 (.seq (.dregion [{ dst := some 6, op := .faddr 0 (.t 1) },
  { dst := some 7, op := .load false 1 (.t 6) },
  { dst := some 8, op := .call 56 [(.t 7)] },
  { dst := some 9, op := .faddr 1 (.t 1) },
  { dst := some 10, op := .load false 1 (.t 9), un := [2] },
  { dst := some 11, op := .call 56 [(.t 10)] },
  { dst := some 12, op := .append 5 1 1 (.t 8) (.t 11) },
  { dst := some 3, op := .move (.t 12) }])
 (.seq (.region [{ dst := some 13, op := .move (.t 3) },
  { dst := some 14, op := .faddr 2 (.t 1) },
  { dst := some 15, op := .load false 1 (.t 14) },
  { dst := some 16, op := .call 56 [(.t 15)] },
  { dst := some 17, op := .append 5 1 1 (.t 13) (.t 16) },
  { dst := some 3, op := .move (.t 17) }])
 (.seq (.seq (.region [{ dst := some 18, op := .faddr 2 (.t 1) },
  { dst := some 19, op := .load false 1 (.t 18) },
  { dst := some 20, op := .bin .eql (.t 19) (.c (.v (.int .i64 1))) }])
 (.cond (.t 20) (.region [{ dst := some 21, op := .move (.t 3) },
  { dst := some 22, op := .faddr 3 (.t 1) },
  { dst := some 23, op := .load false 1 (.t 22) },
  { dst := some 24, op := .call 57 [(.t 23)] },
  { dst := some 25, op := .append 5 1 1 (.t 21) (.t 24) },
  { dst := some 3, op := .move (.t 25) }]) (.seq (.region [{ dst := some 26, op := .move (.t 3) },
  { dst := some 27, op := .faddr 4 (.t 1) },
  { dst := some 28, op := .load false 1 (.t 27) },
  { dst := some 29, op := .len (.t 28) },
  { dst := some 30, op := .call 56 [(.t 29)] },
  { dst := some 31, op := .append 5 1 1 (.t 26) (.t 30) },
  { dst := some 3, op := .move (.t 31) }])
 (.seq (.region [{ dst := some 4, op := .move (.c (.v (.int .i64 0))) }])
 (.block 0 (.loop (.seq (.seq (.region [{ dst := some 32, op := .move (.t 4) },
  { dst := some 33, op := .faddr 4 (.t 1) },
  { dst := some 34, op := .load false 1 (.t 33) },
  { dst := some 35, op := .len (.t 34) },
  { dst := some 36, op := .bin .lss (.t 32) (.t 35) }])
 (.cond (.t 36) .skip (.exit 0)))
 (.seq (.block 1 (.region [{ dst := some 39, op := .move (.t 3) },
  { dst := some 40, op := .faddr 4 (.t 1) },
  { dst := some 41, op := .load false 1 (.t 40) },
  { dst := some 42, op := .move (.t 4) },
  { dst := some 43, op := .iaddr 12 (.t 41) (.t 42) },
  { dst := some 44, op := .load true 12 (.t 43) },
  { dst := some 45, op := .call 58 [(.t 44)] },
  { dst := some 46, op := .append 5 1 1 (.t 39) (.t 45) },
  { dst := some 3, op := .move (.t 46) }]))
 (.region [{ dst := some 37, op := .move (.t 4) },
  { dst := some 38, op := .bin .add (.t 37) (.c (.v (.int .i64 1))) },
  { dst := some 4, op := .move (.t 38) }])))))))))
 (.seq (.region [{ dst := some 47, op := .move (.t 3) },
  { dst := some 48, op := .call 59 [(.c (.v (.int .u32 0))), (.t 47)] },
  { dst := some 5, op := .move (.t 48) }])
 (.seq (.region [{ dst := some 49, op := .move (.t 5) },
  { dst := some 50, op := .bin .shr (.t 49) (.c (.v (.int .u64 24))) },
  { dst := some 51, op := .conv .u8 (.t 50) },
  { dst := some 52, op := .move (.t 5) },
  { dst := some 53, op := .bin .shr (.t 52) (.c (.v (.int .u64 16))) },
  { dst := some 54, op := .conv .u8 (.t 53) },
  { dst := some 55, op := .move (.t 5) },
  { dst := some 56, op := .bin .shr (.t 55) (.c (.v (.int .u64 8))) },
  { dst := some 57, op := .conv .u8 (.t 56) },
  { dst := some 58, op := .move (.t 5) },
  { dst := some 59, op := .conv .u8 (.t 58) },
  { dst := some 60, op := .buildSlice 5 1 4 [.v (.int .u8 0)] [(0, 1, (.t 51)), (1, 1, (.t 54)), (2, 1, (.t 57)), (3, 1, (.t 59))] },
  { dst := some 61, op := .move (.t 3) },
  { dst := some 62, op := .append 5 1 1 (.t 60) (.t 61) },
  { dst := some 2, op := .move (.t 62) }])
 .ret))))))⟩
/-- arras.replica.Hear -/
def F23 : AFun := ⟨true, 21, [.cell 4 true 11, .t 5, .t 6], (.seq (.region [{ dst := some 2, op := .box 32 11 (.t 0) },
  { dst := some 4, op := .alloc 32 [.v (.int .i64 0), .v (.int .i64 0), .v (.slice none 0 0), .v (.slice none 0 0), .v (.slice none 0 0), .v (.slice none 0 0), .v (.slice none 0 0), .v (.slice none 0 0), .v (.int .i64 0), .v (.int .i64 0), .v (.int .i64 0)] },
  { dst := some 5, op := .move (.c (.v (.slice none 0 0))) },
  { dst := some 6, op := .move (.c (.v (.int .i64 0))) }])
 (.seq (.seq (.region [{ dst := some 9, op := .load true 11 (.t 2) },
  { dst := some 10, op := .call 41 [(.t 9)] },
  { dst := some 11, op := .un .not (.t 10) }])
 (.cond (.t 11) (.seq (.region [{ dst := some 12, op := .build [.v (.int .i64 0), .v (.int .i64 0), .v (.slice none 0 0), .v (.slice none 0 0), .v (.slice none 0 0), .v (.slice none 0 0), .v (.slice none 0 0), .v (.slice none 0 0), .v (.int .i64 0), .v (.int .i64 0), .v (.int .i64 0)] [] },
  { dst := none, op := .store 11 (.t 4) (.t 12) },
  { dst := some 5, op := .move (.c (.v (.slice none 0 0))) },
  { dst := some 6, op := .move (.c (.v (.int .i64 1))) }])
 .ret) .skip))
 (.seq (.region [{ dst := some 14, op := .load true 11 (.t 2) },
  { dst := some 15, op := .move (.t 1) },
  { dst := some 16, op := .call 60 [(.t 14), (.t 15)] },
  { dst := some 13, op := .move (.t 16) },
  { dst := some 17, op := .ext (.t 13) 0 },
  { dst := some 18, op := .ext (.t 13) 1 },
  { dst := some 7, op := .alloc 32 [.v (.int .i64 0), .v (.int .i64 0), .v (.slice none 0 0), .v (.slice none 0 0), .v (.slice none 0 0), .v (.slice none 0 0), .v (.slice none 0 0), .v (.slice none 0 0), .v (.int .i64 0), .v (.int .i64 0), .v (.int .i64 0)] },
  { dst := none, op := .store 11 (.t 7) (.t 17) },
  { dst := some 8, op := .move (.t 18) }])
 (.seq (.region [{ dst := some 19, op := .load true 11 (.t 7) },
  { dst := some 20, op := .move (.t 8) },
  { dst := none, op := .store 11 (.t 4) (.t 19) },
  { dst := some 5, op := .move (.t 20) },
  { dst := some 6, op := .move (.c (.v (.int .i64 0))) }])
 .ret))))⟩
/-- arras.arrasref10.Parse -/
def F24 : AFun := ⟨true, 181, [.cell 2 true 5, .t 3], (.seq (.region [{ dst := some 2, op := .alloc 67 [.v (.int .i64 0), .v (.int .i64 0), .v (.int .i64 0), .v (.slice none 0 0), .v (.slice none 0 0)] },
  { dst := some 3, op := .move (.c (.v (.int .i64 0))) }])
 (.seq (.seq (.region [{ dst := some 15, op := .move (.t 0) },
  { dst := some 16, op := .len (.t 15) },
  { dst := some 17, op := .bin .lss (.t 16) (.c (.v (.int .i64 4))) }])
 (.cond (.t 17) (.seq (.region [{ dst := some 18, op := .build [.v (.int .i64 0), .v (.int .i64 0), .v (.int .i64 0), .v (.slice none 0 0), .v (.slice none 0 0)] [] },
  { dst := none, op := .store 5 (.t 2) (.t 18) },
  { dst := some 3, op := .move (.c (.v (.int .i64 7))) }])
 .ret) .skip))
 (.seq (.region [{ dst := some 19, op := .move (.t 0) },
  { dst := some 20, op := .slice 1 (.t 19) (some (.c (.v (.int .i64 4)))) none none },
  { dst := some 21, op := .call 59 [(.c (.v (.int .u32 0))), (.t 20)] },
  { dst := some 4, op := .move (.t 21) }])
 (.seq (.seq (.region [{ dst := some 22, op := .move (.t 0) },
  { dst := some 23, op := .iaddr 1 (.t 22) (.c (.v (.int .i64 0))) },
  { dst := some 24, op := .load false 1 (.t 23) },
  { dst := some 25, op := .move (.t 4) },
  { dst := some 26, op := .bin .shr (.t 25) (.c (.v (.int .u64 24))) },
  { dst := some 27, op := .conv .u8 (.t 26) },
  { dst := some 28, op := .bin .neq (.t 24) (.t 27) },
  { dst := some 29, op := .move (.t 28) },
  { dst := some 30, op := .move (.t 0), guard := some (29, false) },
  { dst := some 31, op := .iaddr 1 (.t 30) (.c (.v (.int .i64 1))), guard := some (29, false) },
  { dst := some 32, op := .load false 1 (.t 31), guard := some (29, false) },
  { dst := some 33, op := .move (.t 4), guard := some (29, false) },
  { dst := some 34, op := .bin .shr (.t 33) (.c (.v (.int .u64 16))), guard := some (29, false) },
  { dst := some 35, op := .conv .u8 (.t 34), guard := some (29, false) },
  { dst := some 36, op := .bin .neq (.t 32) (.t 35), guard := some (29, false) },
  { dst := some 37, op := .pick (.t 29) (.c (.v (.bool true))) (.t 36) },
  { dst := some 38, op := .move (.t 37) },
  { dst := some 39, op := .move (.t 0), guard := some (38, false) },
  { dst := some 40, op := .iaddr 1 (.t 39) (.c (.v (.int .i64 2))), guard := some (38, false) },
  { dst := some 41, op := .load false 1 (.t 40), guard := some (38, false) },
  { dst := some 42, op := .move (.t 4), guard := some (38, false) },
  { dst := some 43, op := .bin .shr (.t 42) (.c (.v (.int .u64 8))), guard := some (38, false) },
  { dst := some 44, op := .conv .u8 (.t 43), guard := some (38, false) },
  { dst := some 45, op := .bin .neq (.t 41) (.t 44), guard := some (38, false) },
  { dst := some 46, op := .pick (.t 38) (.c (.v (.bool true))) (.t 45) },
  { dst := some 47, op := .move (.t 46) },
  { dst := some 48, op := .move (.t 0), guard := some (47, false) },
  { dst := some 49, op := .iaddr 1 (.t 48) (.c (.v (.int .i64 3))), guard := some (47, false) },
  { dst := some 50, op := .load false 1 (.t 49), guard := some (47, false) },
  { dst := some 51, op := .move (.t 4), guard := some (47, false) },
  { dst := some 52, op := .conv .u8 (.t 51), guard := some (47, false) },
  { dst := some 53, op := .bin .neq (.t 50) (.t 52), guard := some (47, false) },
  { dst := some 54, op := .pick (.t 47) (.c (.v (.bool true))) (.t 53) }])
 (.cond (.t 54) (.seq (.region [{ dst := some 55, op := .build [.v (.int .i64 0), .v (.int .i64 0), .v (.int .i64 0), .v (.slice none 0 0), .v (.slice none 0 0)] [] },
  { dst := none, op := .store 5 (.t 2) (.t 55) },
  { dst := some 3, op := .move (.c (.v (.int .i64 8))) }])
 .ret) .skip))
 (.seq (.region [{ dst := some 56, op := .move (.t 0) },
  { dst := some 57, op := .slice 1 (.t 56) (some (.c (.v (.int .i64 4)))) none none },
  { dst := some 58, op := .build [.v (.slice none 0 0), .v (.int .i64 0), .v (.int .i64 0)] [(0, 1, (.t 57))] },
  { dst := some 59, op := .box 118 3 (.t 58) },
  { dst := some 5, op := .move (.t 59) }])
 (.seq (.region [{ dst := some 60, op := .move (.t 5) },
  { dst := some 61, op := .call 61 [(.t 60)] },
  { dst := some 62, op := .move (.t 5) },
  { dst := some 63, op := .call 61 [(.t 62)] },
  { dst := some 64, op := .move (.t 5) },
  { dst := some 65, op := .call 61 [(.t 64)] },
  { dst := some 66, op := .build [.v (.int .i64 0), .v (.int .i64 0), .v (.int .i64 0), .v (.slice none 0 0), .v (.slice none 0 0)] [(0, 1, (.t 61)), (1, 1, (.t 63)), (2, 1, (.t 65))] },
  { dst := some 6, op := .alloc 67 [.v (.int .i64 0), .v (.int .i64 0), .v (.int .i64 0), .v (.slice none 0 0), .v (.slice none 0 0)] },
  { dst := none, op := .store 5 (.t 6) (.t 66) }])
 (.seq (.seq (.region [{ dst := some 67, op := .move (.t 5) },
  { dst := some 68, op := .nilChk (.t 67) },
  { dst := some 69, op := .faddr 2 (.t 68) },
  { dst := some 70, op := .load false 1 (.t 69) },
  { dst := some 71, op := .bin .eql (.t 70) (.c (.v (.int .i64 0))) },
  { dst := some 72, op := .move (.t 71) },
  { dst := some 73, op := .faddr 2 (.t 6), guard := some (72, true) },
  { dst := some 74, op := .load false 1 (.t 73), guard := some (72, true) },
  { dst := some 75, op := .bin .eql (.t 74) (.c (.v (.int .i64 1))), guard := some (72, true) },
  { dst := some 76, op := .pick (.t 72) (.t 75) (.c (.v (.bool false))) }])
 (.cond (.t 76) (.seq (.dregion [{ dst := some 78, op := .move (.t 5) },
  { dst := some 79, op := .nilChk (.t 78) },
  { dst := some 80, op := .faddr 0 (.t 79) },
  { dst := some 81, op := .load false 1 (.t 80) },
  { dst := some 82, op := .move (.t 5) },
  { dst := some 83, op := .nilChk (.t 82) },
  { dst := some 84, op := .faddr 1 (.t 83) },
  { dst := some 85, op := .load false 1 (.t 84) },
  { dst := some 86, op := .slice 1 (.t 81) (some (.t 85)) none none },
  { dst := some 87, op := .call 62 [(.t 86)] },
  { dst := some 77, op := .move (.t 87) },
  { dst := some 88, op := .ext (.t 77) 0 },
  { dst := some 89, op := .ext (.t 77) 1 },
  { dst := some 90, op := .ext (.t 77) 2 },
  { dst := some 7, op := .move (.t 88) },
  { dst := some 8, op := .move (.t 89) },
  { dst := some 9, op := .move (.t 90) }])
 (.seq (.region [{ dst := some 91, op := .move (.t 7) },
  { dst := some 92, op := .faddr 3 (.t 6) },
  { dst := none, op := .store 1 (.t 92) (.t 91) }])
 (.region [{ dst := some 93, op := .move (.t 5) },
  { dst := some 94, op := .move (.t 5) },
  { dst := some 95, op := .move (.t 5) },
  { dst := some 96, op := .nilChk (.t 95) },
  { dst := some 97, op := .faddr 1 (.t 96) },
  { dst := some 98, op := .load false 1 (.t 97) },
  { dst := some 99, op := .move (.t 8) },
  { dst := some 100, op := .bin .add (.t 98) (.t 99) },
  { dst := some 101, op := .move (.t 9) },
  { dst := some 102, op := .nilChk (.t 93) },
  { dst := some 103, op := .faddr 1 (.t 102) },
  { dst := none, op := .store 1 (.t 103) (.t 100) },
  { dst := some 104, op := .nilChk (.t 94) },
  { dst := some 105, op := .faddr 2 (.t 104) },
  { dst := none, op := .store 1 (.t 105) (.t 101) }]))) (.seq (.region [{ dst := some 106, op := .move (.t 5) },
  { dst := some 107, op := .call 61 [(.t 106)] },
  { dst := some 10, op := .move (.t 107) }])
 (.seq (.region [{ dst := some 11, op := .move (.c (.v (.int .i64 0))) }])
 (.block 0 (.loop (.seq (.seq (.region [{ dst := some 108, op := .move (.t 11) },
  { dst := some 109, op := .move (.t 10) },
  { dst := some 110, op := .bin .lss (.t 108) (.t 109) },
  { dst := some 111, op := .move (.t 110) },
  { dst := some 112, op := .move (.t 11), guard := some (111, true) },
  { dst := some 113, op := .bin .leq (.t 112) (.c (.v (.int .i64 8))), guard := some (111, true) },
  { dst := some 114, op := .pick (.t 111) (.t 113) (.c (.v (.bool false))) },
  { dst := some 115, op := .move (.t 114) },
  { dst := some 116, op := .move (.t 5), guard := some (115, true) },
  { dst := some 117, op := .nilChk (.t 116), guard := some (115, true) },
  { dst := some 118, op := .faddr 2 (.t 117), guard := some (115, true) },
  { dst := some 119, op := .load false 1 (.t 118), guard := some (115, true) },
  { dst := some 120, op := .bin .eql (.t 119) (.c (.v (.int .i64 0))), guard := some (115, true) },
  { dst := some 121, op := .pick (.t 115) (.t 120) (.c (.v (.bool false))) }])
 (.cond (.t 121) .skip (.exit 0)))
 (.seq (.block 1 (.seq (.dregion [{ dst := some 125, op := .move (.t 5) },
  { dst := some 126, op := .nilChk (.t 125) },
  { dst := some 127, op := .faddr 0 (.t 126) },
  { dst := some 128, op := .load false 1 (.t 127) },
  { dst := some 129, op := .move (.t 5) },
  { dst := some 130, op := .nilChk (.t 129) },
  { dst := some 131, op := .faddr 1 (.t 130) },
  { dst := some 132, op := .load false 1 (.t 131) },
  { dst := some 133, op := .slice 1 (.t 128) (some (.t 132)) none none },
  { dst := some 134, op := .call 63 [(.t 133)] },
  { dst := some 124, op := .move (.t 134) },
  { dst := some 135, op := .ext (.t 124) 0 },
  { dst := some 136, op := .ext (.t 124) 1 },
  { dst := some 137, op := .ext (.t 124) 2 },
  { dst := some 12, op := .alloc 75 [.v (.int .i64 0), .v (.int .i64 0), .v (.int .i64 0), .v (.slice none 0 0), .v (.int .i64 0), .v (.int .i64 0), .v (.int .i64 0), .v (.int .i64 0), .v (.int .i64 0), .v (.string ⟨#[]⟩), .v (.int .i64 0), .v (.int .i64 0)], un := [3, 7, 9] },
  { dst := none, op := .store 12 (.t 12) (.t 135) },
  { dst := some 13, op := .move (.t 136) },
  { dst := some 14, op := .move (.t 137) }])
 (.seq (.region [{ dst := some 138, op := .faddr 4 (.t 6) },
  { dst := some 139, op := .load false 1 (.t 138) },
  { dst := some 140, op := .load true 12 (.t 12) },
  { dst := some 141, op := .buildSlice 75 12 1 [.v (.int .i64 0), .v (.int .i64 0), .v (.int .i64 0), .v (.slice none 0 0), .v (.int .i64 0), .v (.int .i64 0), .v (.int .i64 0), .v (.int .i64 0), .v (.int .i64 0), .v (.string ⟨#[]⟩), .v (.int .i64 0), .v (.int .i64 0)] [(0, 12, (.t 140))] },
  { dst := some 142, op := .append 75 12 120 (.t 139) (.t 141) },
  { dst := some 143, op := .faddr 4 (.t 6) },
  { dst := none, op := .store 1 (.t 143) (.t 142) }])
 (.region [{ dst := some 144, op := .move (.t 5) },
  { dst := some 145, op := .move (.t 5) },
  { dst := some 146, op := .move (.t 5) },
  { dst := some 147, op := .nilChk (.t 146) },
  { dst := some 148, op := .faddr 1 (.t 147) },
  { dst := some 149, op := .load false 1 (.t 148) },
  { dst := some 150, op := .move (.t 13) },
  { dst := some 151, op := .bin .add (.t 149) (.t 150) },
  { dst := some 152, op := .move (.t 14) },
  { dst := some 153, op := .nilChk (.t 144) },
  { dst := some 154, op := .faddr 1 (.t 153) },
  { dst := none, op := .store 1 (.t 154) (.t 151) },
  { dst := some 155, op := .nilChk (.t 145) },
  { dst := some 156, op := .faddr 2 (.t 155) },
  { dst := none, op := .store 1 (.t 156) (.t 152) }]))))
 (.region [{ dst := some 122, op := .move (.t 11) },
  { dst := some 123, op := .bin .add (.t 122) (.c (.v (.int .i64 1))) },
  { dst := some 11, op := .move (.t 123) }])))))))))
 (.seq (.seq (.dregion [{ dst := some 157, op := .move (.t 5) },
  { dst := some 158, op := .nilChk (.t 157) },
  { dst := some 159, op := .faddr 2 (.t 158) },
  { dst := some 160, op := .load false 1 (.t 159) },
  { dst := some 161, op := .bin .neq (.t 160) (.c (.v (.int .i64 0))) },
  { dst := some 162, op := .move (.t 161) },
  { dst := some 163, op := .move (.t 5), guard := some (162, false) },
  { dst := some 164, op := .nilChk (.t 163), guard := some (162, false) },
  { dst := some 165, op := .faddr 1 (.t 164), guard := some (162, false) },
  { dst := some 166, op := .load false 1 (.t 165), guard := some (162, false) },
  { dst := some 167, op := .move (.t 5), guard := some (162, false) },
  { dst := some 168, op := .nilChk (.t 167), guard := some (162, false) },
  { dst := some 169, op := .faddr 0 (.t 168), guard := some (162, false) },
  { dst := some 170, op := .load false 1 (.t 169), guard := some (162, false) },
  { dst := some 171, op := .len (.t 170), guard := some (162, false) },
  { dst := some 172, op := .bin .neq (.t 166) (.t 171), guard := some (162, false) },
  { dst := some 173, op := .pick (.t 162) (.c (.v (.bool true))) (.t 172) },
  { dst := some 174, op := .move (.t 173) },
  { dst := some 175, op := .load true 5 (.t 6), guard := some (174, false) },
  { dst := some 176, op := .call 64 [(.t 175)], guard := some (174, false) },
  { dst := some 177, op := .un .not (.t 176), guard := some (174, false) },
  { dst := some 178, op := .pick (.t 174) (.c (.v (.bool true))) (.t 177) }])
 (.cond (.t 178) (.seq (.region [{ dst := some 179, op := .build [.v (.int .i64 0), .v (.int .i64 0), .v (.int .i64 0), .v (.slice none 0 0), .v (.slice none 0 0)] [] },
  { dst := none, op := .store 5 (.t 2) (.t 179) },
  { dst := some 3, op := .move (.c (.v (.int .i64 1))) }])
 .ret) .skip))
 (.seq (.region [{ dst := some 180, op := .load true 5 (.t 6) },
  { dst := none, op := .store 5 (.t 2) (.t 180) },
  { dst := some 3, op := .move (.c (.v (.int .i64 0))) }])
 .ret)))))))))⟩
/-- arras.arrasref0.EqShape -/
def F25 : AFun := ⟨true, 17, [.t 4], (.seq (.region [{ dst := some 2, op := .box 30 3 (.t 0) },
  { dst := some 3, op := .box 30 3 (.t 1) },
  { dst := some 4, op := .move (.c (.v (.bool false))) }])
 (.seq (.region [{ dst := some 5, op := .faddr 0 (.t 2) },
  { dst := some 6, op := .load true 2 (.t 5) },
  { dst := some 7, op := .faddr 0 (.t 3) },
  { dst := some 8, op := .load true 2 (.t 7) },
  { dst := some 9, op := .call 65 [(.t 6), (.t 8)] },
  { dst := some 10, op := .move (.t 9) },
  { dst := some 11, op := .faddr 2 (.t 2), guard := some (10, true) },
  { dst := some 12, op := .load false 1 (.t 11), guard := some (10, true) },
  { dst := some 13, op := .faddr 2 (.t 3), guard := some (10, true) },
  { dst := some 14, op := .load false 1 (.t 13), guard := some (10, true) },
  { dst := some 15, op := .call 66 [(.t 12), (.t 14)], guard := some (10, true) },
  { dst := some 16, op := .pick (.t 10) (.t 15) (.c (.v (.bool false))) },
  { dst := some 4, op := .move (.t 16) }])
 .ret))⟩
/-- arras.arrasref25.State -/
def F26 : AFun := ⟨true, 76, [.t 2], (.seq (.region [{ dst := some 1, op := .box 32 11 (.t 0) },
  { dst := some 2, op := .move (.c (.v (.bool false))) }])
 (.seq (.seq (.region [{ dst := some 5, op := .faddr 8 (.t 1) },
  { dst := some 6, op := .load false 1 (.t 5) },
  { dst := some 7, op := .call 46 [(.t 6), (.c (.v (.int .i64 4)))] },
  { dst := some 8, op := .un .not (.t 7) },
  { dst := some 9, op := .move (.t 8) },
  { dst := some 10, op := .faddr 10 (.t 1), guard := some (9, false) },
  { dst := some 11, op := .load false 1 (.t 10), guard := some (9, false) },
  { dst := some 12, op := .call 46 [(.t 11), (.c (.v (.int .i64 1099511627776)))], guard := some (9, false) },
  { dst := some 13, op := .un .not (.t 12), guard := some (9, false) },
  { dst := some 14, op := .pick (.t 9) (.c (.v (.bool true))) (.t 13) },
  { dst := some 15, op := .move (.t 14) },
  { dst := some 16, op := .faddr 2 (.t 1), guard := some (15, false) },
  { dst := some 17, op := .load false 1 (.t 16), guard := some (15, false) },
  { dst := some 18, op := .faddr 4 (.t 1), guard := some (15, false) },
  { dst := some 19, op := .load false 1 (.t 18), guard := some (15, false) },
  { dst := some 20, op := .call 67 [(.t 17), (.t 19)], guard := some (15, false) },
  { dst := some 21, op := .un .not (.t 20), guard := some (15, false) },
  { dst := some 22, op := .pick (.t 15) (.c (.v (.bool true))) (.t 21) },
  { dst := some 23, op := .move (.t 22) },
  { dst := some 24, op := .faddr 0 (.t 1), guard := some (23, false) },
  { dst := some 25, op := .load false 1 (.t 24), guard := some (23, false) },
  { dst := some 26, op := .faddr 2 (.t 1), guard := some (23, false) },
  { dst := some 27, op := .load false 1 (.t 26), guard := some (23, false) },
  { dst := some 28, op := .len (.t 27), guard := some (23, false) },
  { dst := some 29, op := .bin .sub (.t 28) (.c (.v (.int .i64 1))), guard := some (23, false) },
  { dst := some 30, op := .call 46 [(.t 25), (.t 29)], guard := some (23, false) },
  { dst := some 31, op := .un .not (.t 30), guard := some (23, false) },
  { dst := some 32, op := .pick (.t 23) (.c (.v (.bool true))) (.t 31) },
  { dst := some 33, op := .move (.t 32) },
  { dst := some 34, op := .faddr 9 (.t 1), guard := some (33, false) },
  { dst := some 35, op := .load false 1 (.t 34), guard := some (33, false) },
  { dst := some 36, op := .faddr 2 (.t 1), guard := some (33, false) },
  { dst := some 37, op := .load false 1 (.t 36), guard := some (33, false) },
  { dst := some 38, op := .len (.t 37), guard := some (33, false) },
  { dst := some 39, op := .bin .sub (.t 38) (.c (.v (.int .i64 1))), guard := some (33, false) },
  { dst := some 40, op := .call 46 [(.t 35), (.t 39)], guard := some (33, false) },
  { dst := some 41, op := .un .not (.t 40), guard := some (33, false) },
  { dst := some 42, op := .pick (.t 33) (.c (.v (.bool true))) (.t 41) }])
 (.cond (.t 42) (.seq (.region [{ dst := some 2, op := .move (.c (.v (.bool false))) }])
 .ret) .skip))
 (.seq (.region [{ dst := some 44, op := .faddr 0 (.t 1) },
  { dst := some 45, op := .load false 1 (.t 44) },
  { dst := some 46, op := .faddr 2 (.t 1) },
  { dst := some 47, op := .load false 1 (.t 46) },
  { dst := some 48, op := .len (.t 47) },
  { dst := some 49, op := .faddr 3 (.t 1) },
  { dst := some 50, op := .load false 1 (.t 49) },
  { dst := some 51, op := .call 18 [(.t 45), (.t 48), (.t 50)] },
  { dst := some 43, op := .move (.t 51) },
  { dst := some 52, op := .ext (.t 43) 0 },
  { dst := some 53, op := .ext (.t 43) 1 },
  { dst := some 3, op := .alloc 32 [.v (.int .i64 0), .v (.int .i64 0), .v (.slice none 0 0), .v (.slice none 0 0), .v (.slice none 0 0), .v (.slice none 0 0), .v (.slice none 0 0), .v (.slice none 0 0), .v (.int .i64 0), .v (.int .i64 0), .v (.int .i64 0)] },
  { dst := none, op := .store 11 (.t 3) (.t 52) },
  { dst := some 4, op := .move (.t 53) }])
 (.seq (.region [{ dst := some 54, op := .move (.t 4) },
  { dst := some 55, op := .move (.t 54) },
  { dst := some 56, op := .faddr 1 (.t 3), guard := some (55, true) },
  { dst := some 57, op := .load false 1 (.t 56), guard := some (55, true) },
  { dst := some 58, op := .faddr 1 (.t 1), guard := some (55, true) },
  { dst := some 59, op := .load false 1 (.t 58), guard := some (55, true) },
  { dst := some 60, op := .bin .eql (.t 57) (.t 59), guard := some (55, true) },
  { dst := some 61, op := .pick (.t 55) (.t 60) (.c (.v (.bool false))) },
  { dst := some 62, op := .move (.t 61) },
  { dst := some 63, op := .faddr 2 (.t 3), guard := some (62, true) },
  { dst := some 64, op := .load false 1 (.t 63), guard := some (62, true) },
  { dst := some 65, op := .faddr 2 (.t 1), guard := some (62, true) },
  { dst := some 66, op := .load false 1 (.t 65), guard := some (62, true) },
  { dst := some 67, op := .call 43 [(.t 64), (.t 66)], guard := some (62, true) },
  { dst := some 68, op := .pick (.t 62) (.t 67) (.c (.v (.bool false))) },
  { dst := some 69, op := .move (.t 68) },
  { dst := some 70, op := .faddr 5 (.t 3), guard := some (69, true) },
  { dst := some 71, op := .load true 3 (.t 70), guard := some (69, true) },
  { dst := some 72, op := .faddr 5 (.t 1), guard := some (69, true) },
  { dst := some 73, op := .load true 3 (.t 72), guard := some (69, true) },
  { dst := some 74, op := .call 25 [(.t 71), (.t 73)], guard := some (69, true) },
  { dst := some 75, op := .pick (.t 69) (.t 74) (.c (.v (.bool false))) },
  { dst := some 2, op := .move (.t 75) }])
 .ret))))⟩
/-- arras.replica.is -/
def F39 : AFun := ⟨true, 20, [.t 4], (.seq (.region [{ dst := some 4, op := .move (.c (.v (.bool false))) }])
 (.seq (.region [{ dst := some 5, op := .move (.t 1) },
  { dst := some 6, op := .bin .geq (.t 5) (.c (.v (.int .i64 1))) },
  { dst := some 7, op := .move (.t 6) },
  { dst := some 8, op := .move (.t 1), guard := some (7, true) },
  { dst := some 9, op := .bin .leq (.t 8) (.c (.v (.int .i64 16))), guard := some (7, true) },
  { dst := some 10, op := .pick (.t 7) (.t 9) (.c (.v (.bool false))) },
  { dst := some 11, op := .move (.t 10) },
  { dst := some 12, op := .move (.t 0), guard := some (11, true) },
  { dst := some 13, op := .bin .geq (.t 12) (.c (.v (.int .i64 0))), guard := some (11, true) },
  { dst := some 14, op := .pick (.t 11) (.t 13) (.c (.v (.bool false))) },
  { dst := some 15, op := .move (.t 14) },
  { dst := some 16, op := .move (.t 0), guard := some (15, true) },
  { dst := some 17, op := .move (.t 1), guard := some (15, true) },
  { dst := some 18, op := .bin .lss (.t 16) (.t 17), guard := some (15, true) },
  { dst := some 19, op := .pick (.t 15) (.t 18) (.c (.v (.bool false))) },
  { dst := some 4, op := .move (.t 19) }])
 .ret))⟩
/-- arras.replica.empty -/
def F40 : AFun := ⟨false, 9, [.cell 4 true 11], (.seq (.region [{ dst := some 4, op := .alloc 32 [.v (.int .i64 0), .v (.int .i64 0), .v (.slice none 0 0), .v (.slice none 0 0), .v (.slice none 0 0), .v (.slice none 0 0), .v (.slice none 0 0), .v (.slice none 0 0), .v (.int .i64 0), .v (.int .i64 0), .v (.int .i64 0)] }])
 (.seq (.region [{ dst := some 5, op := .move (.t 0) },
  { dst := some 6, op := .move (.t 1) },
  { dst := some 7, op := .mkslice 3 1 8 [.v (.int .i64 0)] (.t 6) (.t 6) },
  { dst := some 8, op := .build [.v (.int .i64 0), .v (.int .i64 0), .v (.slice none 0 0), .v (.slice none 0 0), .v (.slice none 0 0), .v (.slice none 0 0), .v (.slice none 0 0), .v (.slice none 0 0), .v (.int .i64 0), .v (.int .i64 0), .v (.int .i64 0)] [(0, 1, (.t 5)), (2, 1, (.t 7))] },
  { dst := none, op := .store 11 (.t 4) (.t 8) }])
 .ret))⟩
/-- arras.replica.May -/
def F41 : AFun := ⟨true, 93, [.t 2], (.seq (.region [{ dst := some 1, op := .box 32 11 (.t 0) },
  { dst := some 2, op := .move (.c (.v (.bool false))) }])
 (.seq (.region [{ dst := some 6, op := .faddr 2 (.t 1) },
  { dst := some 7, op := .load false 1 (.t 6) },
  { dst := some 8, op := .len (.t 7) },
  { dst := some 3, op := .move (.t 8) }])
 (.seq (.seq (.region [{ dst := some 9, op := .faddr 2 (.t 1) },
  { dst := some 10, op := .load false 1 (.t 9) },
  { dst := some 11, op := .call 76 [(.t 10)] },
  { dst := some 12, op := .un .not (.t 11) },
  { dst := some 13, op := .move (.t 12) },
  { dst := some 14, op := .faddr 0 (.t 1), guard := some (13, false) },
  { dst := some 15, op := .load false 1 (.t 14), guard := some (13, false) },
  { dst := some 16, op := .bin .lss (.t 15) (.c (.v (.int .i64 0))), guard := some (13, false) },
  { dst := some 17, op := .pick (.t 13) (.c (.v (.bool true))) (.t 16) },
  { dst := some 18, op := .move (.t 17) },
  { dst := some 19, op := .faddr 0 (.t 1), guard := some (18, false) },
  { dst := some 20, op := .load false 1 (.t 19), guard := some (18, false) },
  { dst := some 21, op := .move (.t 3), guard := some (18, false) },
  { dst := some 22, op := .bin .geq (.t 20) (.t 21), guard := some (18, false) },
  { dst := some 23, op := .pick (.t 18) (.c (.v (.bool true))) (.t 22) },
  { dst := some 24, op := .move (.t 23) },
  { dst := some 25, op := .faddr 8 (.t 1), guard := some (24, false) },
  { dst := some 26, op := .load false 1 (.t 25), guard := some (24, false) },
  { dst := some 27, op := .bin .lss (.t 26) (.c (.v (.int .i64 0))), guard := some (24, false) },
  { dst := some 28, op := .pick (.t 24) (.c (.v (.bool true))) (.t 27) },
  { dst := some 29, op := .move (.t 28) },
  { dst := some 30, op := .faddr 8 (.t 1), guard := some (29, false) },
  { dst := some 31, op := .load false 1 (.t 30), guard := some (29, false) },
  { dst := some 32, op := .bin .gtr (.t 31) (.c (.v (.int .i64 4))), guard := some (29, false) },
  { dst := some 33, op := .pick (.t 29) (.c (.v (.bool true))) (.t 32) },
  { dst := some 34, op := .move (.t 33) },
  { dst := some 35, op := .faddr 9 (.t 1), guard := some (34, false) },
  { dst := some 36, op := .load false 1 (.t 35), guard := some (34, false) },
  { dst := some 37, op := .bin .lss (.t 36) (.c (.v (.int .i64 0))), guard := some (34, false) },
  { dst := some 38, op := .pick (.t 34) (.c (.v (.bool true))) (.t 37) },
  { dst := some 39, op := .move (.t 38) },
  { dst := some 40, op := .faddr 9 (.t 1), guard := some (39, false) },
  { dst := some 41, op := .load false 1 (.t 40), guard := some (39, false) },
  { dst := some 42, op := .move (.t 3), guard := some (39, false) },
  { dst := some 43, op := .bin .geq (.t 41) (.t 42), guard := some (39, false) },
  { dst := some 44, op := .pick (.t 39) (.c (.v (.bool true))) (.t 43) },
  { dst := some 45, op := .move (.t 44) },
  { dst := some 46, op := .faddr 10 (.t 1), guard := some (45, false) },
  { dst := some 47, op := .load false 1 (.t 46), guard := some (45, false) },
  { dst := some 48, op := .bin .lss (.t 47) (.c (.v (.int .i64 0))), guard := some (45, false) },
  { dst := some 49, op := .pick (.t 45) (.c (.v (.bool true))) (.t 48) },
  { dst := some 50, op := .move (.t 49) },
  { dst := some 51, op := .faddr 10 (.t 1), guard := some (50, false) },
  { dst := some 52, op := .load false 1 (.t 51), guard := some (50, false) },
  { dst := some 53, op := .bin .gtr (.t 52) (.c (.v (.int .i64 1099511627776))), guard := some (50, false) },
  { dst := some 54, op := .pick (.t 50) (.c (.v (.bool true))) (.t 53) }])
 (.cond (.t 54) (.seq (.region [{ dst := some 2, op := .move (.c (.v (.bool false))) }])
 .ret) .skip))
 (.seq (.region [{ dst := some 56, op := .faddr 0 (.t 1) },
  { dst := some 57, op := .load false 1 (.t 56) },
  { dst := some 58, op := .move (.t 3) },
  { dst := some 59, op := .faddr 3 (.t 1) },
  { dst := some 60, op := .load false 1 (.t 59) },
  { dst := some 61, op := .call 48 [(.t 57), (.t 58), (.t 60)] },
  { dst := some 55, op := .move (.t 61) },
  { dst := some 62, op := .ext (.t 55) 0 },
  { dst := some 63, op := .ext (.t 55) 1 },
  { dst := some 4, op := .alloc 32 [.v (.int .i64 0), .v (.int .i64 0), .v (.slice none 0 0), .v (.slice none 0 0), .v (.slice none 0 0), .v (.slice none 0 0), .v (.slice none 0 0), .v (.slice none 0 0), .v (.int .i64 0), .v (.int .i64 0), .v (.int .i64 0)] },
  { dst := none, op := .store 11 (.t 4) (.t 62) },
  { dst := some 5, op := .move (.t 63) }])
 (.seq (.region [{ dst := some 64, op := .move (.t 5) },
  { dst := some 65, op := .move (.t 64) },
  { dst := some 66, op := .faddr 2 (.t 4), guard := some (65, true) },
  { dst := some 67, op := .load false 1 (.t 66), guard := some (65, true) },
  { dst := some 68, op := .faddr 2 (.t 1), guard := some (65, true) },
  { dst := some 69, op := .load false 1 (.t 68), guard := some (65, true) },
  { dst := some 70, op := .call 77 [(.t 67), (.t 69)], guard := some (65, true) },
  { dst := some 71, op := .pick (.t 65) (.t 70) (.c (.v (.bool false))) },
  { dst := some 72, op := .move (.t 71) },
  { dst := some 73, op := .faddr 1 (.t 4), guard := some (72, true) },
  { dst := some 74, op := .load false 1 (.t 73), guard := some (72, true) },
  { dst := some 75, op := .faddr 1 (.t 1), guard := some (72, true) },
  { dst := some 76, op := .load false 1 (.t 75), guard := some (72, true) },
  { dst := some 77, op := .bin .eql (.t 74) (.t 76), guard := some (72, true) },
  { dst := some 78, op := .pick (.t 72) (.t 77) (.c (.v (.bool false))) },
  { dst := some 79, op := .move (.t 78) },
  { dst := some 80, op := .faddr 5 (.t 4), guard := some (79, true) },
  { dst := some 81, op := .load true 3 (.t 80), guard := some (79, true) },
  { dst := some 82, op := .faddr 5 (.t 1), guard := some (79, true) },
  { dst := some 83, op := .load true 3 (.t 82), guard := some (79, true) },
  { dst := some 84, op := .call 78 [(.t 81), (.t 83)], guard := some (79, true) },
  { dst := some 85, op := .pick (.t 79) (.t 84) (.c (.v (.bool false))) },
  { dst := some 86, op := .move (.t 85) },
  { dst := some 87, op := .faddr 2 (.t 1), guard := some (86, true) },
  { dst := some 88, op := .load false 1 (.t 87), guard := some (86, true) },
  { dst := some 89, op := .faddr 4 (.t 1), guard := some (86, true) },
  { dst := some 90, op := .load false 1 (.t 89), guard := some (86, true) },
  { dst := some 91, op := .call 79 [(.t 88), (.t 90)], guard := some (86, true) },
  { dst := some 92, op := .pick (.t 86) (.t 91) (.c (.v (.bool false))) },
  { dst := some 2, op := .move (.t 92) }])
 .ret)))))⟩
/-- arras.replica.Does -/
def F42 : AFun := ⟨true, 37, [.cell 4 true 11, .cell 5 true 9], (.seq (.region [{ dst := some 2, op := .box 32 11 (.t 0) },
  { dst := some 3, op := .box 51 10 (.t 1) },
  { dst := some 4, op := .alloc 32 [.v (.int .i64 0), .v (.int .i64 0), .v (.slice none 0 0), .v (.slice none 0 0), .v (.slice none 0 0), .v (.slice none 0 0), .v (.slice none 0 0), .v (.slice none 0 0), .v (.int .i64 0), .v (.int .i64 0), .v (.int .i64 0)] },
  { dst := some 5, op := .alloc 47 [.v (.int .i64 0), .v (.int .i64 0), .v (.int .i64 0), .v (.slice none 0 0), .v (.int .i64 0), .v (.int .i64 0), .v (.complex .f64 0 0), .v (.complex .f64 0 0), .v (.slice none 0 0)] }])
 (.seq (.seq (.region [{ dst := some 8, op := .faddr 0 (.t 3) },
  { dst := some 9, op := .load false 1 (.t 8) }])
 (.block 0 (.seq (.seq (.region [{ dst := some 11, op := .bin .eql (.t 9) (.c (.v (.int .i64 1))) },
  { dst := some 10, op := .move (.t 11) }])
 (.cond (.t 10) .skip (.seq (.region [{ dst := some 12, op := .bin .eql (.t 9) (.c (.v (.int .i64 2))) },
  { dst := some 10, op := .move (.t 12) }])
 (.cond (.t 10) .skip (.seq (.region [{ dst := some 13, op := .bin .eql (.t 9) (.c (.v (.int .i64 3))) },
  { dst := some 10, op := .move (.t 13) }])
 (.cond (.t 10) .skip (.region [{ dst := some 14, op := .bin .eql (.t 9) (.c (.v (.int .i64 4))) },
  { dst := some 10, op := .move (.t 14) }])))))))
 (.cond (.t 10) (.seq (.region [{ dst := some 15, op := .load true 11 (.t 2) },
  { dst := some 16, op := .call 74 [(.t 15)] },
  { dst := some 6, op := .alloc 32 [.v (.int .i64 0), .v (.int .i64 0), .v (.slice none 0 0), .v (.slice none 0 0), .v (.slice none 0 0), .v (.slice none 0 0), .v (.slice none 0 0), .v (.slice none 0 0), .v (.int .i64 0), .v (.int .i64 0), .v (.int .i64 0)] },
  { dst := none, op := .store 11 (.t 6) (.t 16) }])
 (.seq (.region [{ dst := some 17, op := .load true 10 (.t 3) },
  { dst := some 18, op := .call 80 [(.t 6), (.t 17)] },
  { dst := some 7, op := .alloc 47 [.v (.int .i64 0), .v (.int .i64 0), .v (.int .i64 0), .v (.slice none 0 0), .v (.int .i64 0), .v (.int .i64 0), .v (.complex .f64 0 0), .v (.complex .f64 0 0), .v (.slice none 0 0)] },
  { dst := none, op := .store 9 (.t 7) (.t 18) }])
 (.seq (.seq (.region [{ dst := some 19, op := .faddr 0 (.t 7) },
  { dst := some 20, op := .load false 1 (.t 19) },
  { dst := some 21, op := .bin .neq (.t 20) (.c (.v (.int .i64 0))) }])
 (.cond (.t 21) (.region [{ dst := some 22, op := .load true 11 (.t 2) },
  { dst := some 23, op := .call 74 [(.t 22)] },
  { dst := none, op := .store 11 (.t 6) (.t 23) }]) .skip))
 (.seq (.dregion [{ dst := some 24, op := .load true 11 (.t 6) },
  { dst := some 25, op := .load true 9 (.t 7) },
  { dst := none, op := .store 11 (.t 4) (.t 24), un := [1] },
  { dst := none, op := .store 9 (.t 5) (.t 25) }])
 .ret)))) (.seq (.region [{ dst := some 27, op := .bin .eql (.t 9) (.c (.v (.int .i64 5))) },
  { dst := some 26, op := .move (.t 27) }])
 (.cond (.t 26) (.seq (.dregion [{ dst := some 28, op := .load true 11 (.t 2) },
  { dst := some 29, op := .call 74 [(.t 28)] },
  { dst := some 30, op := .load true 11 (.t 2), un := [1] },
  { dst := some 31, op := .faddr 9 (.t 3) },
  { dst := some 32, op := .load false 1 (.t 31), un := [1] },
  { dst := some 33, op := .call 81 [(.t 30), (.t 32)] },
  { dst := none, op := .store 11 (.t 4) (.t 29) },
  { dst := none, op := .store 9 (.t 5) (.t 33) }])
 .ret) .skip))))))
 (.seq (.region [{ dst := some 34, op := .load true 11 (.t 2) },
  { dst := some 35, op := .call 74 [(.t 34)] },
  { dst := some 36, op := .build [.v (.int .i64 0), .v (.int .i64 0), .v (.int .i64 0), .v (.slice none 0 0), .v (.int .i64 0), .v (.int .i64 0), .v (.complex .f64 0 0), .v (.complex .f64 0 0), .v (.slice none 0 0)] [(0, 1, (.c (.v (.int .i64 1))))] },
  { dst := none, op := .store 11 (.t 4) (.t 35) },
  { dst := none, op := .store 9 (.t 5) (.t 36) }])
 .ret)))⟩
/-- arras.arrasref0.EqNumbers -/
def F43 : AFun := ⟨true, 26, [.t 4], (.seq (.region [{ dst := some 4, op := .move (.c (.v (.bool false))) }])
 (.seq (.seq (.region [{ dst := some 6, op := .move (.t 0) },
  { dst := some 7, op := .len (.t 6) },
  { dst := some 8, op := .move (.t 1) },
  { dst := some 9, op := .len (.t 8) },
  { dst := some 10, op := .bin .neq (.t 7) (.t 9) }])
 (.cond (.t 10) (.seq (.region [{ dst := some 4, op := .move (.c (.v (.bool false))) }])
 .ret) .skip))
 (.seq (.seq (.region [{ dst := some 5, op := .move (.c (.v (.int .i64 0))) }])
 (.block 0 (.loop (.seq (.seq (.region [{ dst := some 11, op := .move (.t 5) },
  { dst := some 12, op := .move (.t 0) },
  { dst := some 13, op := .len (.t 12) },
  { dst := some 14, op := .bin .lss (.t 11) (.t 13) }])
 (.cond (.t 14) .skip (.exit 0)))
 (.seq (.block 1 (.seq (.dregion [{ dst := some 17, op := .move (.t 0) },
  { dst := some 18, op := .move (.t 5) },
  { dst := some 19, op := .iaddr 1 (.t 17) (.t 18) },
  { dst := some 20, op := .load false 1 (.t 19) },
  { dst := some 21, op := .move (.t 1) },
  { dst := some 22, op := .move (.t 5) },
  { dst := some 23, op := .iaddr 1 (.t 21) (.t 22) },
  { dst := some 24, op := .load false 1 (.t 23) },
  { dst := some 25, op := .bin .neq (.t 20) (.t 24) }])
 (.cond (.t 25) (.seq (.region [{ dst := some 4, op := .move (.c (.v (.bool false))) }])
 .ret) .skip)))
 (.region [{ dst := some 15, op := .move (.t 5) },
  { dst := some 16, op := .bin .add (.t 15) (.c (.v (.int .i64 1))) },
  { dst := some 5, op := .move (.t 16) }]))))))
 (.seq (.region [{ dst := some 4, op := .move (.c (.v (.bool true))) }])
 .ret))))⟩
/-- arras.arrasref0.Num -/
def F46 : AFun := ⟨true, 12, [.t 4], (.seq (.region [{ dst := some 4, op := .move (.c (.v (.bool false))) }])
 (.seq (.region [{ dst := some 5, op := .move (.t 0) },
  { dst := some 6, op := .bin .geq (.t 5) (.c (.v (.int .i64 0))) },
  { dst := some 7, op := .move (.t 6) },
  { dst := some 8, op := .move (.t 0), guard := some (7, true) },
  { dst := some 9, op := .move (.t 1), guard := some (7, true) },
  { dst := some 10, op := .bin .leq (.t 8) (.t 9), guard := some (7, true) },
  { dst := some 11, op := .pick (.t 7) (.t 10) (.c (.v (.bool false))) },
  { dst := some 4, op := .move (.t 11) }])
 .ret))⟩
/-- arras.arrasref0.CopyOp -/
def F47 : AFun := ⟨true, 10, [.cell 2 true 12], (.seq (.region [{ dst := some 1, op := .box 75 12 (.t 0) },
  { dst := some 2, op := .alloc 75 [.v (.int .i64 0), .v (.int .i64 0), .v (.int .i64 0), .v (.slice none 0 0), .v (.int .i64 0), .v (.int .i64 0), .v (.int .i64 0), .v (.int .i64 0), .v (.int .i64 0), .v (.string ⟨#[]⟩), .v (.int .i64 0), .v (.int .i64 0)] }])
 (.seq (.region [{ dst := some 4, op := .load true 12 (.t 1) },
  { dst := some 3, op := .alloc 75 [.v (.int .i64 0), .v (.int .i64 0), .v (.int .i64 0), .v (.slice none 0 0), .v (.int .i64 0), .v (.int .i64 0), .v (.int .i64 0), .v (.int .i64 0), .v (.int .i64 0), .v (.string ⟨#[]⟩), .v (.int .i64 0), .v (.int .i64 0)] },
  { dst := none, op := .store 12 (.t 3) (.t 4) }])
 (.seq (.region [{ dst := some 5, op := .faddr 3 (.t 1) },
  { dst := some 6, op := .load false 1 (.t 5) },
  { dst := some 7, op := .call 84 [(.t 6)] },
  { dst := some 8, op := .faddr 3 (.t 3) },
  { dst := none, op := .store 1 (.t 8) (.t 7) }])
 (.seq (.region [{ dst := some 9, op := .load true 12 (.t 3) },
  { dst := none, op := .store 12 (.t 2) (.t 9) }])
 .ret))))⟩
/-- arras.replica.built -/
def F48 : AFun := ⟨true, 52, [.cell 6 true 11, .t 7], (.seq (.region [{ dst := some 6, op := .alloc 32 [.v (.int .i64 0), .v (.int .i64 0), .v (.slice none 0 0), .v (.slice none 0 0), .v (.slice none 0 0), .v (.slice none 0 0), .v (.slice none 0 0), .v (.slice none 0 0), .v (.int .i64 0), .v (.int .i64 0), .v (.int .i64 0)] },
  { dst := some 7, op := .move (.c (.v (.bool false))) }])
 (.scope (.seq (.region [{ dst := some 8, op := .alloc 75 [.v (.int .i64 0), .v (.int .i64 0), .v (.int .i64 0), .v (.slice none 0 0), .v (.int .i64 0), .v (.int .i64 0), .v (.int .i64 0), .v (.int .i64 0), .v (.int .i64 0), .v (.string ⟨#[]⟩), .v (.int .i64 0), .v (.int .i64 0)] }])
 (.seq (.region [{ dst := some 10, op := .move (.t 0) },
  { dst := some 11, op := .move (.t 1) },
  { dst := some 12, op := .call 40 [(.t 10), (.t 11)] },
  { dst := none, op := .store 11 (.t 6) (.t 12) }])
 (.seq (.region [{ dst := some 9, op := .move (.c (.v (.int .i64 0))) }])
 (.seq (.label 0)
 (.seq (.seq (.region [{ dst := some 13, op := .move (.t 9) },
  { dst := some 14, op := .move (.t 2) },
  { dst := some 15, op := .len (.t 14) },
  { dst := some 16, op := .bin .eql (.t 13) (.t 15) }])
 (.cond (.t 16) (.seq (.region [{ dst := some 17, op := .load true 11 (.t 6) },
  { dst := none, op := .store 11 (.t 6) (.t 17) },
  { dst := some 7, op := .move (.c (.v (.bool true))) }])
 .ret) .skip))
 (.seq (.seq (.region [{ dst := some 18, op := .move (.t 2) },
  { dst := some 19, op := .move (.t 9) },
  { dst := some 20, op := .iaddr 12 (.t 18) (.t 19) },
  { dst := some 21, op := .load true 12 (.t 20) },
  { dst := none, op := .store 12 (.t 8) (.t 21) }])
 (.seq (.region [{ dst := some 22, op := .load true 12 (.t 8) },
  { dst := some 23, op := .call 85 [(.t 22)] },
  { dst := some 24, op := .un .not (.t 23) },
  { dst := some 25, op := .move (.t 24) },
  { dst := some 26, op := .faddr 3 (.t 8), guard := some (25, false) },
  { dst := some 27, op := .load false 1 (.t 26), guard := some (25, false) },
  { dst := some 28, op := .len (.t 27), guard := some (25, false) },
  { dst := some 29, op := .move (.t 1), guard := some (25, false) },
  { dst := some 30, op := .bin .neq (.t 28) (.t 29), guard := some (25, false) },
  { dst := some 31, op := .pick (.t 25) (.c (.v (.bool true))) (.t 30) },
  { dst := some 32, op := .move (.t 31) },
  { dst := some 33, op := .faddr 2 (.t 6), guard := some (32, false) },
  { dst := some 34, op := .load false 1 (.t 33), guard := some (32, false) },
  { dst := some 35, op := .load true 12 (.t 8), guard := some (32, false) },
  { dst := some 36, op := .call 86 [(.t 34), (.t 35)], guard := some (32, false) },
  { dst := some 37, op := .un .not (.t 36), guard := some (32, false) },
  { dst := some 38, op := .pick (.t 32) (.c (.v (.bool true))) (.t 37) }])
 (.cond (.t 38) (.seq (.region [{ dst := some 39, op := .load true 11 (.t 6) },
  { dst := none, op := .store 11 (.t 6) (.t 39) },
  { dst := some 7, op := .move (.c (.v (.bool false))) }])
 .ret) .skip)))
 (.seq (.region [{ dst := some 40, op := .faddr 2 (.t 6) },
  { dst := some 41, op := .load false 1 (.t 40) },
  { dst := some 42, op := .faddr 0 (.t 8) },
  { dst := some 43, op := .faddr 1 (.t 42) },
  { dst := some 44, op := .load false 1 (.t 43) },
  { dst := some 45, op := .faddr 2 (.t 8) },
  { dst := some 46, op := .load false 1 (.t 45) },
  { dst := some 47, op := .iaddr 1 (.t 41) (.t 44) },
  { dst := none, op := .store 1 (.t 47) (.t 46) }])
 (.seq (.region [{ dst := some 48, op := .load true 12 (.t 8) },
  { dst := some 49, op := .call 87 [(.t 6), (.t 48)] }])
 (.seq (.region [{ dst := some 50, op := .move (.t 9) },
  { dst := some 51, op := .bin .add (.t 50) (.c (.v (.int .i64 1))) },
  { dst := some 9, op := .move (.t 51) }])
 (.goto 0)))))))))) (.seq (.region [{ dst := some 8, op := .alloc 75 [.v (.int .i64 0), .v (.int .i64 0), .v (.int .i64 0), .v (.slice none 0 0), .v (.int .i64 0), .v (.int .i64 0), .v (.int .i64 0), .v (.int .i64 0), .v (.int .i64 0), .v (.string ⟨#[]⟩), .v (.int .i64 0), .v (.int .i64 0)] }])
 (.seq (.region [{ dst := some 10, op := .move (.t 0) },
  { dst := some 11, op := .move (.t 1) },
  { dst := some 12, op := .call 40 [(.t 10), (.t 11)] },
  { dst := none, op := .store 11 (.t 6) (.t 12) }])
 (.seq (.region [{ dst := some 9, op := .move (.c (.v (.int .i64 0))) }])
 (.seq (.label 0)
 (.seq (.seq (.region [{ dst := some 13, op := .move (.t 9) },
  { dst := some 14, op := .move (.t 2) },
  { dst := some 15, op := .len (.t 14) },
  { dst := some 16, op := .bin .eql (.t 13) (.t 15) }])
 (.cond (.t 16) (.seq (.region [{ dst := some 17, op := .load true 11 (.t 6) },
  { dst := none, op := .store 11 (.t 6) (.t 17) },
  { dst := some 7, op := .move (.c (.v (.bool true))) }])
 .ret) .skip))
 (.seq (.seq (.region [{ dst := some 18, op := .move (.t 2) },
  { dst := some 19, op := .move (.t 9) },
  { dst := some 20, op := .iaddr 12 (.t 18) (.t 19) },
  { dst := some 21, op := .load true 12 (.t 20) },
  { dst := none, op := .store 12 (.t 8) (.t 21) }])
 (.seq (.region [{ dst := some 22, op := .load true 12 (.t 8) },
  { dst := some 23, op := .call 85 [(.t 22)] },
  { dst := some 24, op := .un .not (.t 23) },
  { dst := some 25, op := .move (.t 24) },
  { dst := some 26, op := .faddr 3 (.t 8), guard := some (25, false) },
  { dst := some 27, op := .load false 1 (.t 26), guard := some (25, false) },
  { dst := some 28, op := .len (.t 27), guard := some (25, false) },
  { dst := some 29, op := .move (.t 1), guard := some (25, false) },
  { dst := some 30, op := .bin .neq (.t 28) (.t 29), guard := some (25, false) },
  { dst := some 31, op := .pick (.t 25) (.c (.v (.bool true))) (.t 30) },
  { dst := some 32, op := .move (.t 31) },
  { dst := some 33, op := .faddr 2 (.t 6), guard := some (32, false) },
  { dst := some 34, op := .load false 1 (.t 33), guard := some (32, false) },
  { dst := some 35, op := .load true 12 (.t 8), guard := some (32, false) },
  { dst := some 36, op := .call 86 [(.t 34), (.t 35)], guard := some (32, false) },
  { dst := some 37, op := .un .not (.t 36), guard := some (32, false) },
  { dst := some 38, op := .pick (.t 32) (.c (.v (.bool true))) (.t 37) }])
 (.cond (.t 38) (.seq (.region [{ dst := some 39, op := .load true 11 (.t 6) },
  { dst := none, op := .store 11 (.t 6) (.t 39) },
  { dst := some 7, op := .move (.c (.v (.bool false))) }])
 .ret) .skip)))
 (.seq (.region [{ dst := some 40, op := .faddr 2 (.t 6) },
  { dst := some 41, op := .load false 1 (.t 40) },
  { dst := some 42, op := .faddr 0 (.t 8) },
  { dst := some 43, op := .faddr 1 (.t 42) },
  { dst := some 44, op := .load false 1 (.t 43) },
  { dst := some 45, op := .faddr 2 (.t 8) },
  { dst := some 46, op := .load false 1 (.t 45) },
  { dst := some 47, op := .iaddr 1 (.t 41) (.t 44) },
  { dst := none, op := .store 1 (.t 47) (.t 46) }])
 (.seq (.region [{ dst := some 48, op := .load true 12 (.t 8) },
  { dst := some 49, op := .call 87 [(.t 6), (.t 48)] }])
 (.seq (.region [{ dst := some 50, op := .move (.t 9) },
  { dst := some 51, op := .bin .add (.t 50) (.c (.v (.int .i64 1))) },
  { dst := some 9, op := .move (.t 51) }])
 (.goto 0))))))))))))⟩
/-- arras.arrasref10.Ops -/
def F49 : AFun := ⟨true, 28, [.t 4], (.seq (.region [{ dst := some 4, op := .move (.c (.v (.bool false))) }])
 (.seq (.seq (.region [{ dst := some 5, op := .move (.c (.v (.int .i64 0))) }])
 (.block 0 (.loop (.seq (.seq (.region [{ dst := some 6, op := .move (.t 5) },
  { dst := some 7, op := .move (.t 0) },
  { dst := some 8, op := .len (.t 7) },
  { dst := some 9, op := .bin .lss (.t 6) (.t 8) }])
 (.cond (.t 9) .skip (.exit 0)))
 (.seq (.block 1 (.seq (.region [{ dst := some 12, op := .move (.t 0) },
  { dst := some 13, op := .move (.t 5) },
  { dst := some 14, op := .iaddr 12 (.t 12) (.t 13) },
  { dst := some 15, op := .load true 12 (.t 14) },
  { dst := some 16, op := .call 88 [(.t 15)] },
  { dst := some 17, op := .un .not (.t 16) },
  { dst := some 18, op := .move (.t 17) },
  { dst := some 19, op := .move (.t 0), guard := some (18, false) },
  { dst := some 20, op := .move (.t 5), guard := some (18, false) },
  { dst := some 21, op := .iaddr 12 (.t 19) (.t 20), guard := some (18, false) },
  { dst := some 22, op := .faddr 3 (.t 21), guard := some (18, false) },
  { dst := some 23, op := .load false 1 (.t 22), guard := some (18, false) },
  { dst := some 24, op := .len (.t 23), guard := some (18, false) },
  { dst := some 25, op := .move (.t 1), guard := some (18, false) },
  { dst := some 26, op := .bin .neq (.t 24) (.t 25), guard := some (18, false) },
  { dst := some 27, op := .pick (.t 18) (.c (.v (.bool true))) (.t 26) }])
 (.cond (.t 27) (.seq (.region [{ dst := some 4, op := .move (.c (.v (.bool false))) }])
 .ret) .skip)))
 (.region [{ dst := some 10, op := .move (.t 5) },
  { dst := some 11, op := .bin .add (.t 10) (.c (.v (.int .i64 1))) },
  { dst := some 5, op := .move (.t 11) }]))))))
 (.seq (.region [{ dst := some 4, op := .move (.c (.v (.bool true))) }])
 .ret)))⟩
/-- arras.arrasref14.Ready -/
def F50 : AFun := ⟨true, 21, [.t 4], (.seq (.region [{ dst := some 3, op := .box 75 12 (.t 1) },
  { dst := some 4, op := .move (.c (.v (.bool false))) }])
 (.seq (.dregion [{ dst := some 5, op := .move (.t 0) },
  { dst := some 6, op := .faddr 0 (.t 3) },
  { dst := some 7, op := .faddr 1 (.t 6) },
  { dst := some 8, op := .load false 1 (.t 7) },
  { dst := some 9, op := .iaddr 1 (.t 5) (.t 8) },
  { dst := some 10, op := .load false 1 (.t 9) },
  { dst := some 11, op := .faddr 2 (.t 3) },
  { dst := some 12, op := .load false 1 (.t 11) },
  { dst := some 13, op := .bin .sub (.t 12) (.c (.v (.int .i64 1))) },
  { dst := some 14, op := .bin .eql (.t 10) (.t 13) },
  { dst := some 15, op := .move (.t 14) },
  { dst := some 16, op := .move (.t 0), guard := some (15, true) },
  { dst := some 17, op := .faddr 3 (.t 3), guard := some (15, true) },
  { dst := some 18, op := .load false 1 (.t 17), guard := some (15, true) },
  { dst := some 19, op := .call 89 [(.t 16), (.t 18)], guard := some (15, true) },
  { dst := some 20, op := .pick (.t 15) (.t 19) (.c (.v (.bool false))) },
  { dst := some 4, op := .move (.t 20) }])
 .ret))⟩
/-- arras.arrasref25.applied -/
def F51 : AFun := ⟨false, 33, [.cell 4 true 11], (.seq (.region [{ dst := some 2, op := .box 32 11 (.t 0) },
  { dst := some 3, op := .box 75 12 (.t 1) },
  { dst := some 4, op := .alloc 32 [.v (.int .i64 0), .v (.int .i64 0), .v (.slice none 0 0), .v (.slice none 0 0), .v (.slice none 0 0), .v (.slice none 0 0), .v (.slice none 0 0), .v (.slice none 0 0), .v (.int .i64 0), .v (.int .i64 0), .v (.int .i64 0)] }])
 (.seq (.dregion [{ dst := some 7, op := .faddr 3 (.t 2) },
  { dst := some 8, op := .load false 1 (.t 7) },
  { dst := some 9, op := .call 16 [(.t 8)] },
  { dst := some 10, op := .load true 12 (.t 3), un := [2] },
  { dst := some 11, op := .call 47 [(.t 10)] },
  { dst := some 12, op := .buildSlice 75 12 1 [.v (.int .i64 0), .v (.int .i64 0), .v (.int .i64 0), .v (.slice none 0 0), .v (.int .i64 0), .v (.int .i64 0), .v (.int .i64 0), .v (.int .i64 0), .v (.int .i64 0), .v (.string ⟨#[]⟩), .v (.int .i64 0), .v (.int .i64 0)] [(0, 12, (.t 11))] },
  { dst := some 13, op := .append 75 12 120 (.t 9) (.t 12) },
  { dst := some 14, op := .faddr 3 (.t 2) },
  { dst := none, op := .store 1 (.t 14) (.t 13) }])
 (.seq (.region [{ dst := some 15, op := .faddr 1 (.t 2) },
  { dst := some 16, op := .load false 1 (.t 15) },
  { dst := some 17, op := .faddr 0 (.t 3) },
  { dst := some 18, op := .faddr 0 (.t 17) },
  { dst := some 19, op := .load false 1 (.t 18) },
  { dst := some 20, op := .max [(.t 16), (.t 19)] },
  { dst := some 21, op := .faddr 1 (.t 2) },
  { dst := none, op := .store 1 (.t 21) (.t 20) }])
 (.seq (.region [{ dst := some 23, op := .faddr 5 (.t 2) },
  { dst := some 24, op := .load true 3 (.t 23) },
  { dst := some 25, op := .load true 12 (.t 3) },
  { dst := some 26, op := .call 90 [(.t 24), (.t 25)] },
  { dst := some 22, op := .move (.t 26) },
  { dst := some 27, op := .ext (.t 22) 0 },
  { dst := some 28, op := .ext (.t 22) 1 },
  { dst := some 5, op := .alloc 30 [.v (.slice none 0 0), .v (.slice none 0 0), .v (.slice none 0 0)] },
  { dst := none, op := .store 3 (.t 5) (.t 27) },
  { dst := some 6, op := .move (.t 28) }])
 (.seq (.seq (.region [{ dst := some 29, op := .move (.t 6) }])
 (.cond (.t 29) (.region [{ dst := some 30, op := .load true 3 (.t 5) },
  { dst := some 31, op := .faddr 5 (.t 2) },
  { dst := none, op := .store 3 (.t 31) (.t 30) }]) .skip))
 (.seq (.region [{ dst := some 32, op := .load true 11 (.t 2) },
  { dst := none, op := .store 11 (.t 4) (.t 32) }])
 .ret))))))⟩
/-- arras.arrasref0.EqOp -/
def F52 : AFun := ⟨true, 66, [.t 4], (.seq (.region [{ dst := some 2, op := .box 75 12 (.t 0) },
  { dst := some 3, op := .box 75 12 (.t 1) },
  { dst := some 4, op := .move (.c (.v (.bool false))) }])
 (.seq (.region [{ dst := some 5, op := .faddr 0 (.t 2) },
  { dst := some 6, op := .load true 2 (.t 5) },
  { dst := some 7, op := .faddr 0 (.t 3) },
  { dst := some 8, op := .load true 2 (.t 7) },
  { dst := some 9, op := .eqAgg false [1, 1] (.t 6) (.t 8) },
  { dst := some 10, op := .move (.t 9) },
  { dst := some 11, op := .faddr 2 (.t 2), guard := some (10, true) },
  { dst := some 12, op := .load false 1 (.t 11), guard := some (10, true) },
  { dst := some 13, op := .faddr 2 (.t 3), guard := some (10, true) },
  { dst := some 14, op := .load false 1 (.t 13), guard := some (10, true) },
  { dst := some 15, op := .bin .eql (.t 12) (.t 14), guard := some (10, true) },
  { dst := some 16, op := .pick (.t 10) (.t 15) (.c (.v (.bool false))) },
  { dst := some 17, op := .move (.t 16) },
  { dst := some 18, op := .faddr 3 (.t 2), guard := some (17, true) },
  { dst := some 19, op := .load false 1 (.t 18), guard := some (17, true) },
  { dst := some 20, op := .faddr 3 (.t 3), guard := some (17, true) },
  { dst := some 21, op := .load false 1 (.t 20), guard := some (17, true) },
  { dst := some 22, op := .call 43 [(.t 19), (.t 21)], guard := some (17, true) },
  { dst := some 23, op := .pick (.t 17) (.t 22) (.c (.v (.bool false))) },
  { dst := some 24, op := .move (.t 23) },
  { dst := some 25, op := .faddr 4 (.t 2), guard := some (24, true) },
  { dst := some 26, op := .load false 1 (.t 25), guard := some (24, true) },
  { dst := some 27, op := .faddr 4 (.t 3), guard := some (24, true) },
  { dst := some 28, op := .load false 1 (.t 27), guard := some (24, true) },
  { dst := some 29, op := .bin .eql (.t 26) (.t 28), guard := some (24, true) },
  { dst := some 30, op := .pick (.t 24) (.t 29) (.c (.v (.bool false))) },
  { dst := some 31, op := .move (.t 30) },
  { dst := some 32, op := .faddr 5 (.t 2), guard := some (31, true) },
  { dst := some 33, op := .load true 2 (.t 32), guard := some (31, true) },
  { dst := some 34, op := .faddr 5 (.t 3), guard := some (31, true) },
  { dst := some 35, op := .load true 2 (.t 34), guard := some (31, true) },
  { dst := some 36, op := .eqAgg false [1, 1] (.t 33) (.t 35), guard := some (31, true) },
  { dst := some 37, op := .pick (.t 31) (.t 36) (.c (.v (.bool false))) },
  { dst := some 38, op := .move (.t 37) },
  { dst := some 39, op := .faddr 7 (.t 2), guard := some (38, true) },
  { dst := some 40, op := .load true 2 (.t 39), guard := some (38, true) },
  { dst := some 41, op := .faddr 7 (.t 3), guard := some (38, true) },
  { dst := some 42, op := .load true 2 (.t 41), guard := some (38, true) },
  { dst := some 43, op := .eqAgg false [1, 1] (.t 40) (.t 42), guard := some (38, true) },
  { dst := some 44, op := .pick (.t 38) (.t 43) (.c (.v (.bool false))) },
  { dst := some 45, op := .move (.t 44) },
  { dst := some 46, op := .faddr 9 (.t 2), guard := some (45, true) },
  { dst := some 47, op := .load false 1 (.t 46), guard := some (45, true) },
  { dst := some 48, op := .faddr 9 (.t 3), guard := some (45, true) },
  { dst := some 49, op := .load false 1 (.t 48), guard := some (45, true) },
  { dst := some 50, op := .bin .eql (.t 47) (.t 49), guard := some (45, true) },
  { dst := some 51, op := .pick (.t 45) (.t 50) (.c (.v (.bool false))) },
  { dst := some 52, op := .move (.t 51) },
  { dst := some 53, op := .faddr 10 (.t 2), guard := some (52, true) },
  { dst := some 54, op := .load false 1 (.t 53), guard := some (52, true) },
  { dst := some 55, op := .faddr 10 (.t 3), guard := some (52, true) },
  { dst := some 56, op := .load false 1 (.t 55), guard := some (52, true) },
  { dst := some 57, op := .bin .eql (.t 54) (.t 56), guard := some (52, true) },
  { dst := some 58, op := .pick (.t 52) (.t 57) (.c (.v (.bool false))) },
  { dst := some 59, op := .move (.t 58) },
  { dst := some 60, op := .faddr 11 (.t 2), guard := some (59, true) },
  { dst := some 61, op := .load false 1 (.t 60), guard := some (59, true) },
  { dst := some 62, op := .faddr 11 (.t 3), guard := some (59, true) },
  { dst := some 63, op := .load false 1 (.t 62), guard := some (59, true) },
  { dst := some 64, op := .bin .eql (.t 61) (.t 63), guard := some (59, true) },
  { dst := some 65, op := .pick (.t 59) (.t 64) (.c (.v (.bool false))) },
  { dst := some 4, op := .move (.t 65) }])
 .ret))⟩
/-- arras.arrasref5.Num -/
def F56 : AFun := ⟨false, 20, [.t 2], (.seq (.region [{ dst := some 2, op := .move (.c (.v (.slice none 0 0))) }])
 (.seq (.region [{ dst := some 3, op := .move (.c (.v (.slice none 0 0))) }])
 (.seq (.block 0 (.loop (.seq (.seq (.region [{ dst := some 4, op := .move (.t 0) },
  { dst := some 5, op := .bin .gtr (.t 4) (.c (.v (.int .i64 127))) }])
 (.cond (.t 5) .skip (.exit 0)))
 (.block 1 (.seq (.region [{ dst := some 6, op := .move (.t 3) },
  { dst := some 7, op := .move (.t 0) },
  { dst := some 8, op := .bin .and (.t 7) (.c (.v (.int .i64 127))) },
  { dst := some 9, op := .conv .u8 (.t 8) },
  { dst := some 10, op := .bin .or (.t 9) (.c (.v (.int .u8 128))) },
  { dst := some 11, op := .buildSlice 5 1 1 [.v (.int .u8 0)] [(0, 1, (.t 10))] },
  { dst := some 12, op := .append 5 1 1 (.t 6) (.t 11) },
  { dst := some 3, op := .move (.t 12) }])
 (.region [{ dst := some 13, op := .move (.t 0) },
  { dst := some 14, op := .bin .shr (.t 13) (.c (.v (.int .u64 7))) },
  { dst := some 0, op := .move (.t 14) }]))))))
 (.seq (.region [{ dst := some 15, op := .move (.t 3) },
  { dst := some 16, op := .move (.t 0) },
  { dst := some 17, op := .conv .u8 (.t 16) },
  { dst := some 18, op := .buildSlice 5 1 1 [.v (.int .u8 0)] [(0, 1, (.t 17))] },
  { dst := some 19, op := .append 5 1 1 (.t 15) (.t 18) },
  { dst := some 2, op := .move (.t 19) }])
 .ret))))⟩
/-- arras.arrasref5.Nums -/
def F57 : AFun := ⟨false, 22, [.t 2], (.seq (.region [{ dst := some 2, op := .move (.c (.v (.slice none 0 0))) }])
 (.seq (.region [{ dst := some 5, op := .move (.t 0) },
  { dst := some 6, op := .len (.t 5) },
  { dst := some 7, op := .call 56 [(.t 6)] },
  { dst := some 3, op := .move (.t 7) }])
 (.seq (.seq (.region [{ dst := some 4, op := .move (.c (.v (.int .i64 0))) }])
 (.block 0 (.loop (.seq (.seq (.region [{ dst := some 8, op := .move (.t 4) },
  { dst := some 9, op := .move (.t 0) },
  { dst := some 10, op := .len (.t 9) },
  { dst := some 11, op := .bin .lss (.t 8) (.t 10) }])
 (.cond (.t 11) .skip (.exit 0)))
 (.seq (.block 1 (.region [{ dst := some 14, op := .move (.t 3) },
  { dst := some 15, op := .move (.t 0) },
  { dst := some 16, op := .move (.t 4) },
  { dst := some 17, op := .iaddr 1 (.t 15) (.t 16) },
  { dst := some 18, op := .load false 1 (.t 17) },
  { dst := some 19, op := .call 56 [(.t 18)] },
  { dst := some 20, op := .append 5 1 1 (.t 14) (.t 19) },
  { dst := some 3, op := .move (.t 20) }]))
 (.region [{ dst := some 12, op := .move (.t 4) },
  { dst := some 13, op := .bin .add (.t 12) (.c (.v (.int .i64 1))) },
  { dst := some 4, op := .move (.t 13) }]))))))
 (.seq (.region [{ dst := some 21, op := .move (.t 3) },
  { dst := some 2, op := .move (.t 21) }])
 .ret))))⟩
/-- arras.arrasref5.Sum -/
def F59 : AFun := ⟨true, 36, [.t 4], (.seq (.region [{ dst := some 4, op := .move (.c (.v (.int .u32 0))) }])
 (.seq (.region [{ dst := some 7, op := .move (.t 0) },
  { dst := some 8, op := .bin .xor (.t 7) (.c (.v (.int .u32 4294967295))) },
  { dst := some 0, op := .move (.t 8) }])
 (.seq (.seq (.region [{ dst := some 5, op := .move (.c (.v (.int .i64 0))) }])
 (.block 0 (.loop (.seq (.seq (.region [{ dst := some 9, op := .move (.t 5) },
  { dst := some 10, op := .move (.t 1) },
  { dst := some 11, op := .len (.t 10) },
  { dst := some 12, op := .bin .lss (.t 9) (.t 11) }])
 (.cond (.t 12) .skip (.exit 0)))
 (.seq (.block 1 (.seq (.region [{ dst := some 15, op := .move (.t 0) },
  { dst := some 16, op := .move (.t 1) },
  { dst := some 17, op := .move (.t 5) },
  { dst := some 18, op := .iaddr 1 (.t 16) (.t 17) },
  { dst := some 19, op := .load false 1 (.t 18) },
  { dst := some 20, op := .conv .u32 (.t 19) },
  { dst := some 21, op := .bin .xor (.t 15) (.t 20) },
  { dst := some 0, op := .move (.t 21) }])
 (.seq (.region [{ dst := some 6, op := .move (.c (.v (.int .i64 0))) }])
 (.block 2 (.loop (.seq (.seq (.region [{ dst := some 22, op := .move (.t 6) },
  { dst := some 23, op := .bin .lss (.t 22) (.c (.v (.int .i64 8))) }])
 (.cond (.t 23) .skip (.exit 2)))
 (.seq (.block 3 (.seq (.region [{ dst := some 26, op := .move (.t 0) },
  { dst := some 27, op := .bin .and (.t 26) (.c (.v (.int .u32 1))) },
  { dst := some 28, op := .bin .eql (.t 27) (.c (.v (.int .u32 1))) }])
 (.cond (.t 28) (.region [{ dst := some 29, op := .move (.t 0) },
  { dst := some 30, op := .bin .shr (.t 29) (.c (.v (.int .u64 1))) },
  { dst := some 31, op := .bin .xor (.t 30) (.c (.v (.int .u32 3988292384))) },
  { dst := some 0, op := .move (.t 31) }]) (.region [{ dst := some 32, op := .move (.t 0) },
  { dst := some 33, op := .bin .shr (.t 32) (.c (.v (.int .u64 1))) },
  { dst := some 0, op := .move (.t 33) }]))))
 (.region [{ dst := some 24, op := .move (.t 6) },
  { dst := some 25, op := .bin .add (.t 24) (.c (.v (.int .i64 1))) },
  { dst := some 6, op := .move (.t 25) }]))))))))
 (.region [{ dst := some 13, op := .move (.t 5) },
  { dst := some 14, op := .bin .add (.t 13) (.c (.v (.int .i64 1))) },
  { dst := some 5, op := .move (.t 14) }]))))))
 (.seq (.region [{ dst := some 34, op := .move (.t 0) },
  { dst := some 35, op := .bin .xor (.t 34) (.c (.v (.int .u32 4294967295))) },
  { dst := some 4, op := .move (.t 35) }])
 .ret))))⟩
/-- arras.replica.Hears -/
def F60 : AFun := ⟨true, 62, [.cell 4 true 11, .t 5], (.seq (.region [{ dst := some 2, op := .box 32 11 (.t 0) },
  { dst := some 4, op := .alloc 32 [.v (.int .i64 0), .v (.int .i64 0), .v (.slice none 0 0), .v (.slice none 0 0), .v (.slice none 0 0), .v (.slice none 0 0), .v (.slice none 0 0), .v (.slice none 0 0), .v (.int .i64 0), .v (.int .i64 0), .v (.int .i64 0)] },
  { dst := some 5, op := .move (.c (.v (.slice none 0 0))) }])
 (.seq (.region [{ dst := some 12, op := .load true 11 (.t 2) },
  { dst := some 13, op := .call 74 [(.t 12)] },
  { dst := none, op := .store 11 (.t 2) (.t 13) }])
 (.seq (.region [{ dst := some 15, op := .move (.t 1) },
  { dst := some 16, op := .call 96 [(.t 15)] },
  { dst := some 14, op := .move (.t 16) },
  { dst := some 17, op := .ext (.t 14) 0 },
  { dst := some 18, op := .ext (.t 14) 1 },
  { dst := some 6, op := .alloc 67 [.v (.int .i64 0), .v (.int .i64 0), .v (.int .i64 0), .v (.slice none 0 0), .v (.slice none 0 0)] },
  { dst := none, op := .store 5 (.t 6) (.t 17) },
  { dst := some 7, op := .move (.t 18) }])
 (.seq (.seq (.region [{ dst := some 19, op := .move (.t 7) },
  { dst := some 20, op := .bin .neq (.t 19) (.c (.v (.int .i64 0))) },
  { dst := some 21, op := .move (.t 20) },
  { dst := some 22, op := .load true 11 (.t 2), guard := some (21, false) },
  { dst := some 23, op := .load true 5 (.t 6), guard := some (21, false) },
  { dst := some 24, op := .call 97 [(.t 22), (.t 23)], guard := some (21, false) },
  { dst := some 25, op := .pick (.t 21) (.c (.v (.bool true))) (.t 24) }])
 (.cond (.t 25) (.seq (.region [{ dst := some 26, op := .call 98 [(.t 2)] }])
 (.seq (.region [{ dst := some 27, op := .load true 11 (.t 2) },
  { dst := none, op := .store 11 (.t 4) (.t 27) },
  { dst := some 5, op := .move (.c (.v (.slice none 0 0))) }])
 .ret)) .skip))
 (.seq (.seq (.region [{ dst := some 28, op := .faddr 2 (.t 6) },
  { dst := some 29, op := .load false 1 (.t 28) },
  { dst := some 30, op := .bin .eql (.t 29) (.c (.v (.int .i64 1))) }])
 (.cond (.t 30) (.seq (.region [{ dst := some 32, op := .faddr 0 (.t 2) },
  { dst := some 33, op := .load false 1 (.t 32) },
  { dst := some 34, op := .faddr 0 (.t 6) },
  { dst := some 35, op := .load false 1 (.t 34) },
  { dst := some 36, op := .faddr 3 (.t 2) },
  { dst := some 37, op := .load false 1 (.t 36) },
  { dst := some 38, op := .faddr 3 (.t 6) },
  { dst := some 39, op := .load false 1 (.t 38) },
  { dst := some 40, op := .call 99 [(.t 33), (.t 35), (.t 37), (.t 39)] },
  { dst := some 31, op := .move (.t 40) },
  { dst := some 41, op := .ext (.t 31) 0 },
  { dst := some 42, op := .ext (.t 31) 1 },
  { dst := some 8, op := .alloc 67 [.v (.int .i64 0), .v (.int .i64 0), .v (.int .i64 0), .v (.slice none 0 0), .v (.slice none 0 0)] },
  { dst := none, op := .store 5 (.t 8) (.t 41) },
  { dst := some 9, op := .move (.t 42) }])
 (.seq (.seq (.region [{ dst := some 43, op := .move (.t 9) },
  { dst := some 44, op := .bin .neq (.t 43) (.c (.v (.int .i64 0))) }])
 (.cond (.t 44) (.seq (.region [{ dst := some 45, op := .load true 11 (.t 2) },
  { dst := none, op := .store 11 (.t 4) (.t 45) },
  { dst := some 5, op := .move (.c (.v (.slice none 0 0))) }])
 .ret) .skip))
 (.seq (.dregion [{ dst := some 46, op := .load true 11 (.t 2) },
  { dst := some 47, op := .load true 5 (.t 8) },
  { dst := some 48, op := .call 100 [(.t 47)] },
  { dst := none, op := .store 11 (.t 4) (.t 46) },
  { dst := some 5, op := .move (.t 48) }])
 .ret))) .skip))
 (.seq (.seq (.region [{ dst := some 49, op := .faddr 4 (.t 6) },
  { dst := some 50, op := .load false 1 (.t 49) },
  { dst := some 51, op := .len (.t 50) },
  { dst := some 52, op := .move (.c (.v (.int .i64 0))) }])
 (.block 0 (.loop (.seq (.region [{ dst := some 53, op := .bin .lss (.t 52) (.t 51) }])
 (.seq (.cond (.t 53) .skip (.exit 0))
 (.seq (.block 1 (.seq (.region [{ dst := some 54, op := .iaddr 12 (.t 50) (.t 52) },
  { dst := some 55, op := .load true 12 (.t 54) },
  { dst := some 11, op := .alloc 75 [.v (.int .i64 0), .v (.int .i64 0), .v (.int .i64 0), .v (.slice none 0 0), .v (.int .i64 0), .v (.int .i64 0), .v (.int .i64 0), .v (.int .i64 0), .v (.int .i64 0), .v (.string ⟨#[]⟩), .v (.int .i64 0), .v (.int .i64 0)] },
  { dst := none, op := .store 12 (.t 11) (.t 55) }])
 (.seq (.region [{ dst := some 56, op := .load true 12 (.t 11) },
  { dst := some 57, op := .call 101 [(.t 2), (.t 56)] },
  { dst := some 58, op := .bin .neq (.t 57) (.c (.v (.int .i64 0))) }])
 (.cond (.t 58) (.region [{ dst := some 59, op := .call 98 [(.t 2)] }]) .skip))))
 (.region [{ dst := some 60, op := .bin .add (.t 52) (.c (.v (.int .i64 1))) },
  { dst := some 52, op := .move (.t 60) }])))))))
 (.seq (.region [{ dst := some 61, op := .load true 11 (.t 2) },
  { dst := none, op := .store 11 (.t 4) (.t 61) },
  { dst := some 5, op := .move (.c (.v (.slice none 0 0))) }])
 .ret)))))))⟩
/-- (*arras.arrasref10.taker).num -/
def F61 : AFun := ⟨false, 39, [.t 2], (.seq (.region [{ dst := some 2, op := .move (.c (.v (.int .i64 0))) }])
 (.seq (.seq (.region [{ dst := some 6, op := .move (.t 0) },
  { dst := some 7, op := .nilChk (.t 6) },
  { dst := some 8, op := .faddr 2 (.t 7) },
  { dst := some 9, op := .load false 1 (.t 8) },
  { dst := some 10, op := .bin .neq (.t 9) (.c (.v (.int .i64 0))) }])
 (.cond (.t 10) (.seq (.region [{ dst := some 2, op := .move (.c (.v (.int .i64 0))) }])
 .ret) .skip))
 (.seq (.dregion [{ dst := some 12, op := .move (.t 0) },
  { dst := some 13, op := .nilChk (.t 12) },
  { dst := some 14, op := .faddr 0 (.t 13) },
  { dst := some 15, op := .load false 1 (.t 14) },
  { dst := some 16, op := .move (.t 0) },
  { dst := some 17, op := .nilChk (.t 16) },
  { dst := some 18, op := .faddr 1 (.t 17) },
  { dst := some 19, op := .load false 1 (.t 18) },
  { dst := some 20, op := .slice 1 (.t 15) (some (.t 19)) none none },
  { dst := some 21, op := .call 102 [(.t 20)] },
  { dst := some 11, op := .move (.t 21) },
  { dst := some 22, op := .ext (.t 11) 0 },
  { dst := some 23, op := .ext (.t 11) 1 },
  { dst := some 24, op := .ext (.t 11) 2 },
  { dst := some 3, op := .move (.t 22) },
  { dst := some 4, op := .move (.t 23) },
  { dst := some 5, op := .move (.t 24) }])
 (.seq (.region [{ dst := some 25, op := .move (.t 0) },
  { dst := some 26, op := .move (.t 0) },
  { dst := some 27, op := .move (.t 0) },
  { dst := some 28, op := .nilChk (.t 27) },
  { dst := some 29, op := .faddr 1 (.t 28) },
  { dst := some 30, op := .load false 1 (.t 29) },
  { dst := some 31, op := .move (.t 4) },
  { dst := some 32, op := .bin .add (.t 30) (.t 31) },
  { dst := some 33, op := .move (.t 5) },
  { dst := some 34, op := .nilChk (.t 25) },
  { dst := some 35, op := .faddr 1 (.t 34) },
  { dst := none, op := .store 1 (.t 35) (.t 32) },
  { dst := some 36, op := .nilChk (.t 26) },
  { dst := some 37, op := .faddr 2 (.t 36) },
  { dst := none, op := .store 1 (.t 37) (.t 33) }])
 (.seq (.region [{ dst := some 38, op := .move (.t 3) },
  { dst := some 2, op := .move (.t 38) }])
 .ret)))))⟩
/-- arras.arrasref6.TakeVector -/
def F62 : AFun := ⟨true, 22, [.t 2, .t 3, .t 4], (.seq (.region [{ dst := some 2, op := .move (.c (.v (.slice none 0 0))) },
  { dst := some 3, op := .move (.c (.v (.int .i64 0))) },
  { dst := some 4, op := .move (.c (.v (.int .i64 0))) }])
 (.seq (.region [{ dst := some 9, op := .move (.t 0) },
  { dst := some 10, op := .call 103 [(.t 9)] },
  { dst := some 8, op := .move (.t 10) },
  { dst := some 11, op := .ext (.t 8) 0 },
  { dst := some 12, op := .ext (.t 8) 1 },
  { dst := some 13, op := .ext (.t 8) 2 },
  { dst := some 5, op := .move (.t 11) },
  { dst := some 6, op := .move (.t 12) },
  { dst := some 7, op := .move (.t 13) }])
 (.seq (.seq (.region [{ dst := some 14, op := .move (.t 7) },
  { dst := some 15, op := .bin .neq (.t 14) (.c (.v (.int .i64 0))) }])
 (.cond (.t 15) (.seq (.region [{ dst := some 16, op := .move (.t 7) },
  { dst := some 2, op := .move (.c (.v (.slice none 0 0))) },
  { dst := some 3, op := .move (.c (.v (.int .i64 0))) },
  { dst := some 4, op := .move (.t 16) }])
 .ret) .skip))
 (.seq (.seq (.region [{ dst := some 17, op := .move (.t 5) },
  { dst := some 18, op := .call 104 [(.t 17)] },
  { dst := some 19, op := .un .not (.t 18) }])
 (.cond (.t 19) (.seq (.region [{ dst := some 2, op := .move (.c (.v (.slice none 0 0))) },
  { dst := some 3, op := .move (.c (.v (.int .i64 0))) },
  { dst := some 4, op := .move (.c (.v (.int .i64 1))) }])
 .ret) .skip))
 (.seq (.region [{ dst := some 20, op := .move (.t 5) },
  { dst := some 21, op := .move (.t 6) },
  { dst := some 2, op := .move (.t 20) },
  { dst := some 3, op := .move (.t 21) },
  { dst := some 4, op := .move (.c (.v (.int .i64 0))) }])
 .ret)))))⟩
/-- arras.arrasref10.Take -/
def F63 : AFun := ⟨true, 153, [.cell 2 true 12, .t 3, .t 4], (.seq (.region [{ dst := some 2, op := .alloc 75 [.v (.int .i64 0), .v (.int .i64 0), .v (.int .i64 0), .v (.slice none 0 0), .v (.int .i64 0), .v (.int .i64 0), .v (.int .i64 0), .v (.int .i64 0), .v (.int .i64 0), .v (.string ⟨#[]⟩), .v (.int .i64 0), .v (.int .i64 0)] },
  { dst := some 3, op := .move (.c (.v (.int .i64 0))) },
  { dst := some 4, op := .move (.c (.v (.int .i64 0))) }])
 (.seq (.region [{ dst := some 13, op := .move (.t 0) },
  { dst := some 14, op := .build [.v (.slice none 0 0), .v (.int .i64 0), .v (.int .i64 0)] [(0, 1, (.t 13))] },
  { dst := some 15, op := .box 118 3 (.t 14) },
  { dst := some 5, op := .move (.t 15) }])
 (.seq (.region [{ dst := some 16, op := .move (.t 5) },
  { dst := some 17, op := .call 105 [(.t 16)] },
  { dst := some 18, op := .build [.v (.int .i64 0), .v (.int .i64 0), .v (.int .i64 0), .v (.slice none 0 0), .v (.int .i64 0), .v (.int .i64 0), .v (.int .i64 0), .v (.int .i64 0), .v (.int .i64 0), .v (.string ⟨#[]⟩), .v (.int .i64 0), .v (.int .i64 0)] [(0, 2, (.t 17))] },
  { dst := some 6, op := .alloc 75 [.v (.int .i64 0), .v (.int .i64 0), .v (.int .i64 0), .v (.slice none 0 0), .v (.int .i64 0), .v (.int .i64 0), .v (.int .i64 0), .v (.int .i64 0), .v (.int .i64 0), .v (.string ⟨#[]⟩), .v (.int .i64 0), .v (.int .i64 0)] },
  { dst := none, op := .store 12 (.t 6) (.t 18) }])
 (.seq (.seq (.region [{ dst := some 19, op := .move (.t 5) },
  { dst := some 20, op := .nilChk (.t 19) },
  { dst := some 21, op := .faddr 2 (.t 20) },
  { dst := some 22, op := .load false 1 (.t 21) },
  { dst := some 23, op := .bin .eql (.t 22) (.c (.v (.int .i64 0))) }])
 (.cond (.t 23) (.seq (.region [{ dst := some 25, op := .move (.t 0) },
  { dst := some 26, op := .move (.t 5) },
  { dst := some 27, op := .nilChk (.t 26) },
  { dst := some 28, op := .faddr 1 (.t 27) },
  { dst := some 29, op := .load false 1 (.t 28) },
  { dst := some 30, op := .slice 1 (.t 25) (some (.t 29)) none none },
  { dst := some 31, op := .call 62 [(.t 30)] },
  { dst := some 24, op := .move (.t 31) },
  { dst := some 32, op := .ext (.t 24) 0 },
  { dst := some 33, op := .ext (.t 24) 1 },
  { dst := some 34, op := .ext (.t 24) 2 },
  { dst := some 7, op := .move (.t 32) },
  { dst := some 8, op := .move (.t 33) },
  { dst := some 9, op := .move (.t 34) }])
 (.seq (.region [{ dst := some 35, op := .move (.t 7) },
  { dst := some 36, op := .faddr 3 (.t 6) },
  { dst := none, op := .store 1 (.t 36) (.t 35) }])
 (.region [{ dst := some 37, op := .move (.t 5) },
  { dst := some 38, op := .move (.t 5) },
  { dst := some 39, op := .move (.t 5) },
  { dst := some 40, op := .nilChk (.t 39) },
  { dst := some 41, op := .faddr 1 (.t 40) },
  { dst := some 42, op := .load false 1 (.t 41) },
  { dst := some 43, op := .move (.t 8) },
  { dst := some 44, op := .bin .add (.t 42) (.t 43) },
  { dst := some 45, op := .move (.t 9) },
  { dst := some 46, op := .nilChk (.t 37) },
  { dst := some 47, op := .faddr 1 (.t 46) },
  { dst := none, op := .store 1 (.t 47) (.t 44) },
  { dst := some 48, op := .nilChk (.t 38) },
  { dst := some 49, op := .faddr 2 (.t 48) },
  { dst := none, op := .store 1 (.t 49) (.t 45) }]))) .skip))
 (.seq (.region [{ dst := some 50, op := .move (.t 5) },
  { dst := some 51, op := .call 61 [(.t 50)] },
  { dst := some 52, op := .faddr 4 (.t 6) },
  { dst := none, op := .store 1 (.t 52) (.t 51) }])
 (.seq (.seq (.region [{ dst := some 53, op := .move (.t 5) },
  { dst := some 54, op := .nilChk (.t 53) },
  { dst := some 55, op := .faddr 2 (.t 54) },
  { dst := some 56, op := .load false 1 (.t 55) },
  { dst := some 57, op := .bin .eql (.t 56) (.c (.v (.int .i64 0))) },
  { dst := some 58, op := .move (.t 57) },
  { dst := some 59, op := .faddr 4 (.t 6), guard := some (58, true) },
  { dst := some 60, op := .load false 1 (.t 59), guard := some (58, true) },
  { dst := some 61, op := .bin .neq (.t 60) (.c (.v (.int .i64 1))), guard := some (58, true) },
  { dst := some 62, op := .pick (.t 58) (.t 61) (.c (.v (.bool false))) },
  { dst := some 63, op := .move (.t 62) },
  { dst := some 64, op := .faddr 4 (.t 6), guard := some (63, true) },
  { dst := some 65, op := .load false 1 (.t 64), guard := some (63, true) },
  { dst := some 66, op := .bin .neq (.t 65) (.c (.v (.int .i64 2))), guard := some (63, true) },
  { dst := some 67, op := .pick (.t 63) (.t 66) (.c (.v (.bool false))) }])
 (.cond (.t 67) (.region [{ dst := some 68, op := .move (.t 5) },
  { dst := some 69, op := .nilChk (.t 68) },
  { dst := some 70, op := .faddr 2 (.t 69) },
  { dst := none, op := .store 1 (.t 70) (.c (.v (.int .i64 1))) }]) .skip))
 (.seq (.region [{ dst := some 71, op := .move (.t 5) },
  { dst := some 72, op := .call 105 [(.t 71)] },
  { dst := some 73, op := .faddr 5 (.t 6) },
  { dst := none, op := .store 2 (.t 73) (.t 72) }])
 (.seq (.seq (.region [{ dst := some 74, op := .faddr 4 (.t 6) },
  { dst := some 75, op := .load false 1 (.t 74) },
  { dst := some 76, op := .bin .eql (.t 75) (.c (.v (.int .i64 1))) }])
 (.cond (.t 76) (.seq (.region [{ dst := some 77, op := .move (.t 5) },
  { dst := some 78, op := .call 105 [(.t 77)] },
  { dst := some 79, op := .faddr 7 (.t 6) },
  { dst := none, op := .store 2 (.t 79) (.t 78) }])
 (.seq (.region [{ dst := some 80, op := .move (.t 5) },
  { dst := some 81, op := .nilChk (.t 80) },
  { dst := some 82, op := .faddr 2 (.t 81) },
  { dst := some 83, op := .load false 1 (.t 82) },
  { dst := some 84, op := .bin .eql (.t 83) (.c (.v (.int .i64 0))) }])
 (.cond (.t 84) (.seq (.region [{ dst := some 86, op := .move (.t 0) },
  { dst := some 87, op := .move (.t 5) },
  { dst := some 88, op := .nilChk (.t 87) },
  { dst := some 89, op := .faddr 1 (.t 88) },
  { dst := some 90, op := .load false 1 (.t 89) },
  { dst := some 91, op := .slice 1 (.t 86) (some (.t 90)) none none },
  { dst := some 92, op := .call 106 [(.t 91)] },
  { dst := some 85, op := .move (.t 92) },
  { dst := some 93, op := .ext (.t 85) 0 },
  { dst := some 94, op := .ext (.t 85) 1 },
  { dst := some 95, op := .ext (.t 85) 2 },
  { dst := some 10, op := .move (.t 93) },
  { dst := some 11, op := .move (.t 94) },
  { dst := some 12, op := .move (.t 95) }])
 (.seq (.region [{ dst := some 96, op := .move (.t 10) },
  { dst := some 97, op := .faddr 9 (.t 6) },
  { dst := none, op := .store 1 (.t 97) (.t 96) }])
 (.region [{ dst := some 98, op := .move (.t 5) },
  { dst := some 99, op := .move (.t 5) },
  { dst := some 100, op := .move (.t 5) },
  { dst := some 101, op := .nilChk (.t 100) },
  { dst := some 102, op := .faddr 1 (.t 101) },
  { dst := some 103, op := .load false 1 (.t 102) },
  { dst := some 104, op := .move (.t 11) },
  { dst := some 105, op := .bin .add (.t 103) (.t 104) },
  { dst := some 106, op := .move (.t 12) },
  { dst := some 107, op := .nilChk (.t 98) },
  { dst := some 108, op := .faddr 1 (.t 107) },
  { dst := none, op := .store 1 (.t 108) (.t 105) },
  { dst := some 109, op := .nilChk (.t 99) },
  { dst := some 110, op := .faddr 2 (.t 109) },
  { dst := none, op := .store 1 (.t 110) (.t 106) }]))) .skip))) (.seq (.region [{ dst := some 111, op := .move (.t 5) },
  { dst := some 112, op := .call 61 [(.t 111)] },
  { dst := some 113, op := .faddr 10 (.t 6) },
  { dst := none, op := .store 1 (.t 113) (.t 112) }])
 (.region [{ dst := some 114, op := .move (.t 5) },
  { dst := some 115, op := .call 61 [(.t 114)] },
  { dst := some 116, op := .bin .sub (.t 115) (.c (.v (.int .i64 1))) },
  { dst := some 117, op := .faddr 11 (.t 6) },
  { dst := none, op := .store 1 (.t 117) (.t 116) }]))))
 (.seq (.seq (.region [{ dst := some 118, op := .move (.t 5) },
  { dst := some 119, op := .nilChk (.t 118) },
  { dst := some 120, op := .faddr 2 (.t 119) },
  { dst := some 121, op := .load false 1 (.t 120) },
  { dst := some 122, op := .bin .neq (.t 121) (.c (.v (.int .i64 0))) }])
 (.cond (.t 122) (.seq (.dregion [{ dst := some 123, op := .build [.v (.int .i64 0), .v (.int .i64 0), .v (.int .i64 0), .v (.slice none 0 0), .v (.int .i64 0), .v (.int .i64 0), .v (.int .i64 0), .v (.int .i64 0), .v (.int .i64 0), .v (.string ⟨#[]⟩), .v (.int .i64 0), .v (.int .i64 0)] [] },
  { dst := some 124, op := .move (.t 5) },
  { dst := some 125, op := .nilChk (.t 124) },
  { dst := some 126, op := .faddr 2 (.t 125) },
  { dst := some 127, op := .load false 1 (.t 126) },
  { dst := none, op := .store 12 (.t 2) (.t 123), un := [4] },
  { dst := some 3, op := .move (.c (.v (.int .i64 0))) },
  { dst := some 4, op := .move (.t 127) }])
 .ret) .skip))
 (.seq (.seq (.region [{ dst := some 128, op := .faddr 0 (.t 6) },
  { dst := some 129, op := .faddr 1 (.t 128) },
  { dst := some 130, op := .load false 1 (.t 129) },
  { dst := some 131, op := .faddr 3 (.t 6) },
  { dst := some 132, op := .load false 1 (.t 131) },
  { dst := some 133, op := .len (.t 132) },
  { dst := some 134, op := .bin .lss (.t 130) (.t 133) }])
 (.cond (.t 134) (.region [{ dst := some 135, op := .faddr 3 (.t 6) },
  { dst := some 136, op := .load false 1 (.t 135) },
  { dst := some 137, op := .faddr 0 (.t 6) },
  { dst := some 138, op := .faddr 1 (.t 137) },
  { dst := some 139, op := .load false 1 (.t 138) },
  { dst := some 140, op := .iaddr 1 (.t 136) (.t 139) },
  { dst := some 141, op := .load false 1 (.t 140) },
  { dst := some 142, op := .bin .add (.t 141) (.c (.v (.int .i64 1))) },
  { dst := some 143, op := .faddr 2 (.t 6) },
  { dst := none, op := .store 1 (.t 143) (.t 142) }]) .skip))
 (.seq (.seq (.region [{ dst := some 144, op := .load true 12 (.t 6) },
  { dst := some 145, op := .call 88 [(.t 144)] },
  { dst := some 146, op := .un .not (.t 145) }])
 (.cond (.t 146) (.seq (.region [{ dst := some 147, op := .build [.v (.int .i64 0), .v (.int .i64 0), .v (.int .i64 0), .v (.slice none 0 0), .v (.int .i64 0), .v (.int .i64 0), .v (.int .i64 0), .v (.int .i64 0), .v (.int .i64 0), .v (.string ⟨#[]⟩), .v (.int .i64 0), .v (.int .i64 0)] [] },
  { dst := none, op := .store 12 (.t 2) (.t 147) },
  { dst := some 3, op := .move (.c (.v (.int .i64 0))) },
  { dst := some 4, op := .move (.c (.v (.int .i64 1))) }])
 .ret) .skip))
 (.seq (.dregion [{ dst := some 148, op := .load true 12 (.t 6) },
  { dst := some 149, op := .move (.t 5) },
  { dst := some 150, op := .nilChk (.t 149) },
  { dst := some 151, op := .faddr 1 (.t 150) },
  { dst := some 152, op := .load false 1 (.t 151) },
  { dst := none, op := .store 12 (.t 2) (.t 148), un := [4] },
  { dst := some 3, op := .move (.t 152) },
  { dst := some 4, op := .move (.c (.v (.int .i64 0))) }])
 .ret))))))))))))⟩
/-- arras.arrasref10.Frame -/
def F64 : AFun := ⟨true, 66, [.t 2], (.seq (.region [{ dst := some 1, op := .box 67 5 (.t 0) },
  { dst := some 2, op := .move (.c (.v (.bool false))) }])
 (.seq (.seq (.region [{ dst := some 4, op := .faddr 0 (.t 1) },
  { dst := some 5, op := .load false 1 (.t 4) },
  { dst := some 6, op := .call 46 [(.t 5), (.c (.v (.int .i64 15)))] },
  { dst := some 7, op := .un .not (.t 6) },
  { dst := some 8, op := .move (.t 7) },
  { dst := some 9, op := .faddr 1 (.t 1), guard := some (8, false) },
  { dst := some 10, op := .load false 1 (.t 9), guard := some (8, false) },
  { dst := some 11, op := .call 46 [(.t 10), (.c (.v (.int .i64 15)))], guard := some (8, false) },
  { dst := some 12, op := .un .not (.t 11), guard := some (8, false) },
  { dst := some 13, op := .pick (.t 8) (.c (.v (.bool true))) (.t 12) },
  { dst := some 14, op := .move (.t 13) },
  { dst := some 15, op := .faddr 0 (.t 1), guard := some (14, false) },
  { dst := some 16, op := .load false 1 (.t 15), guard := some (14, false) },
  { dst := some 17, op := .faddr 1 (.t 1), guard := some (14, false) },
  { dst := some 18, op := .load false 1 (.t 17), guard := some (14, false) },
  { dst := some 19, op := .bin .eql (.t 16) (.t 18), guard := some (14, false) },
  { dst := some 20, op := .pick (.t 14) (.c (.v (.bool true))) (.t 19) }])
 (.cond (.t 20) (.seq (.region [{ dst := some 2, op := .move (.c (.v (.bool false))) }])
 .ret) .skip))
 (.seq (.seq (.region [{ dst := some 21, op := .faddr 2 (.t 1) },
  { dst := some 22, op := .load false 1 (.t 21) }])
 (.block 0 (.seq (.region [{ dst := some 24, op := .bin .eql (.t 22) (.c (.v (.int .i64 1))) },
  { dst := some 23, op := .move (.t 24) }])
 (.cond (.t 23) (.seq (.region [{ dst := some 25, op := .faddr 3 (.t 1) },
  { dst := some 26, op := .load false 1 (.t 25) },
  { dst := some 27, op := .call 104 [(.t 26)] },
  { dst := some 28, op := .move (.t 27) },
  { dst := some 29, op := .faddr 4 (.t 1), guard := some (28, true) },
  { dst := some 30, op := .load false 1 (.t 29), guard := some (28, true) },
  { dst := some 31, op := .len (.t 30), guard := some (28, true) },
  { dst := some 32, op := .bin .eql (.t 31) (.c (.v (.int .i64 0))), guard := some (28, true) },
  { dst := some 33, op := .pick (.t 28) (.t 32) (.c (.v (.bool false))) },
  { dst := some 2, op := .move (.t 33) }])
 .ret) (.seq (.region [{ dst := some 35, op := .bin .eql (.t 22) (.c (.v (.int .i64 2))) },
  { dst := some 34, op := .move (.t 35) }])
 (.cond (.t 34) (.seq (.seq (.region [{ dst := some 3, op := .move (.c (.v (.int .i64 0))) }])
 (.block 1 (.loop (.seq (.seq (.region [{ dst := some 36, op := .move (.t 3) },
  { dst := some 37, op := .faddr 4 (.t 1) },
  { dst := some 38, op := .load false 1 (.t 37) },
  { dst := some 39, op := .len (.t 38) },
  { dst := some 40, op := .bin .lss (.t 36) (.t 39) }])
 (.cond (.t 40) .skip (.exit 1)))
 (.seq (.block 2 (.seq (.region [{ dst := some 43, op := .faddr 4 (.t 1) },
  { dst := some 44, op := .load false 1 (.t 43) },
  { dst := some 45, op := .move (.t 3) },
  { dst := some 46, op := .iaddr 12 (.t 44) (.t 45) },
  { dst := some 47, op := .load true 12 (.t 46) },
  { dst := some 48, op := .call 88 [(.t 47)] },
  { dst := some 49, op := .un .not (.t 48) }])
 (.cond (.t 49) (.seq (.region [{ dst := some 2, op := .move (.c (.v (.bool false))) }])
 .ret) .skip)))
 (.region [{ dst := some 41, op := .move (.t 3) },
  { dst := some 42, op := .bin .add (.t 41) (.c (.v (.int .i64 1))) },
  { dst := some 3, op := .move (.t 42) }]))))))
 (.seq (.region [{ dst := some 50, op := .faddr 3 (.t 1) },
  { dst := some 51, op := .load false 1 (.t 50) },
  { dst := some 52, op := .len (.t 51) },
  { dst := some 53, op := .bin .eql (.t 52) (.c (.v (.int .i64 0))) },
  { dst := some 54, op := .move (.t 53) },
  { dst := some 55, op := .faddr 4 (.t 1), guard := some (54, true) },
  { dst := some 56, op := .load false 1 (.t 55), guard := some (54, true) },
  { dst := some 57, op := .len (.t 56), guard := some (54, true) },
  { dst := some 58, op := .bin .geq (.t 57) (.c (.v (.int .i64 1))), guard := some (54, true) },
  { dst := some 59, op := .pick (.t 54) (.t 58) (.c (.v (.bool false))) },
  { dst := some 60, op := .move (.t 59) },
  { dst := some 61, op := .faddr 4 (.t 1), guard := some (60, true) },
  { dst := some 62, op := .load false 1 (.t 61), guard := some (60, true) },
  { dst := some 63, op := .len (.t 62), guard := some (60, true) },
  { dst := some 64, op := .bin .leq (.t 63) (.c (.v (.int .i64 8))), guard := some (60, true) },
  { dst := some 65, op := .pick (.t 60) (.t 64) (.c (.v (.bool false))) },
  { dst := some 2, op := .move (.t 65) }])
 .ret)) .skip))))))
 (.seq (.region [{ dst := some 2, op := .move (.c (.v (.bool false))) }])
 .ret))))⟩
/-- arras.arrasref0.EqTree -/
def F65 : AFun := ⟨true, 17, [.t 4], (.seq (.region [{ dst := some 2, op := .box 27 2 (.t 0) },
  { dst := some 3, op := .box 27 2 (.t 1) },
  { dst := some 4, op := .move (.c (.v (.bool false))) }])
 (.seq (.region [{ dst := some 5, op := .faddr 0 (.t 2) },
  { dst := some 6, op := .load false 1 (.t 5) },
  { dst := some 7, op := .faddr 0 (.t 3) },
  { dst := some 8, op := .load false 1 (.t 7) },
  { dst := some 9, op := .call 107 [(.t 6), (.t 8)] },
  { dst := some 10, op := .move (.t 9) },
  { dst := some 11, op := .faddr 1 (.t 2), guard := some (10, true) },
  { dst := some 12, op := .load false 1 (.t 11), guard := some (10, true) },
  { dst := some 13, op := .faddr 1 (.t 3), guard := some (10, true) },
  { dst := some 14, op := .load false 1 (.t 13), guard := some (10, true) },
  { dst := some 15, op := .call 108 [(.t 12), (.t 14)], guard := some (10, true) },
  { dst := some 16, op := .pick (.t 10) (.t 15) (.c (.v (.bool false))) },
  { dst := some 4, op := .move (.t 16) }])
 .ret))⟩
/-- arras.arrasref0.EqLooks -/
def F66 : AFun := ⟨true, 27, [.t 4], (.seq (.region [{ dst := some 4, op := .move (.c (.v (.bool false))) }])
 (.seq (.seq (.region [{ dst := some 6, op := .move (.t 0) },
  { dst := some 7, op := .len (.t 6) },
  { dst := some 8, op := .move (.t 1) },
  { dst := some 9, op := .len (.t 8) },
  { dst := some 10, op := .bin .neq (.t 7) (.t 9) }])
 (.cond (.t 10) (.seq (.region [{ dst := some 4, op := .move (.c (.v (.bool false))) }])
 .ret) .skip))
 (.seq (.seq (.region [{ dst := some 5, op := .move (.c (.v (.int .i64 0))) }])
 (.block 0 (.loop (.seq (.seq (.region [{ dst := some 11, op := .move (.t 5) },
  { dst := some 12, op := .move (.t 0) },
  { dst := some 13, op := .len (.t 12) },
  { dst := some 14, op := .bin .lss (.t 11) (.t 13) }])
 (.cond (.t 14) .skip (.exit 0)))
 (.seq (.block 1 (.seq (.dregion [{ dst := some 17, op := .move (.t 0) },
  { dst := some 18, op := .move (.t 5) },
  { dst := some 19, op := .iaddr 3 (.t 17) (.t 18) },
  { dst := some 20, op := .load true 3 (.t 19) },
  { dst := some 21, op := .move (.t 1) },
  { dst := some 22, op := .move (.t 5) },
  { dst := some 23, op := .iaddr 3 (.t 21) (.t 22) },
  { dst := some 24, op := .load true 3 (.t 23) },
  { dst := some 25, op := .call 109 [(.t 20), (.t 24)] },
  { dst := some 26, op := .un .not (.t 25) }])
 (.cond (.t 26) (.seq (.region [{ dst := some 4, op := .move (.c (.v (.bool false))) }])
 .ret) .skip)))
 (.region [{ dst := some 15, op := .move (.t 5) },
  { dst := some 16, op := .bin .add (.t 15) (.c (.v (.int .i64 1))) },
  { dst := some 5, op := .move (.t 16) }]))))))
 (.seq (.region [{ dst := some 4, op := .move (.c (.v (.bool true))) }])
 .ret))))⟩
/-- arras.arrasref14.Hold -/
def F67 : AFun := ⟨true, 73, [.t 4], (.seq (.region [{ dst := some 4, op := .move (.c (.v (.bool false))) }])
 (.seq (.seq (.region [{ dst := some 8, op := .move (.t 0) },
  { dst := some 9, op := .call 104 [(.t 8)] },
  { dst := some 10, op := .un .not (.t 9) },
  { dst := some 11, op := .move (.t 10) },
  { dst := some 12, op := .move (.t 1), guard := some (11, false) },
  { dst := some 13, op := .len (.t 12), guard := some (11, false) },
  { dst := some 14, op := .bin .gtr (.t 13) (.c (.v (.int .i64 16))), guard := some (11, false) },
  { dst := some 15, op := .pick (.t 11) (.c (.v (.bool true))) (.t 14) }])
 (.cond (.t 15) (.seq (.region [{ dst := some 4, op := .move (.c (.v (.bool false))) }])
 .ret) .skip))
 (.seq (.seq (.region [{ dst := some 5, op := .move (.c (.v (.int .i64 0))) }])
 (.block 0 (.loop (.seq (.seq (.region [{ dst := some 16, op := .move (.t 5) },
  { dst := some 17, op := .move (.t 1) },
  { dst := some 18, op := .len (.t 17) },
  { dst := some 19, op := .bin .lss (.t 16) (.t 18) }])
 (.cond (.t 19) .skip (.exit 0)))
 (.seq (.block 1 (.seq (.region [{ dst := some 22, op := .move (.t 1) },
  { dst := some 23, op := .move (.t 5) },
  { dst := some 24, op := .iaddr 12 (.t 22) (.t 23) },
  { dst := some 25, op := .load true 12 (.t 24) },
  { dst := some 6, op := .alloc 75 [.v (.int .i64 0), .v (.int .i64 0), .v (.int .i64 0), .v (.slice none 0 0), .v (.int .i64 0), .v (.int .i64 0), .v (.int .i64 0), .v (.int .i64 0), .v (.int .i64 0), .v (.string ⟨#[]⟩), .v (.int .i64 0), .v (.int .i64 0)] },
  { dst := none, op := .store 12 (.t 6) (.t 25) }])
 (.seq (.seq (.dregion [{ dst := some 26, op := .move (.t 0) },
  { dst := some 27, op := .load true 12 (.t 6) },
  { dst := some 28, op := .call 110 [(.t 26), (.t 27)] },
  { dst := some 29, op := .un .not (.t 28) },
  { dst := some 30, op := .move (.t 29) },
  { dst := some 31, op := .faddr 2 (.t 6), guard := some (30, false) },
  { dst := some 32, op := .load false 1 (.t 31), guard := some (30, false) },
  { dst := some 33, op := .move (.t 0), guard := some (30, false) },
  { dst := some 34, op := .faddr 0 (.t 6), guard := some (30, false) },
  { dst := some 35, op := .faddr 1 (.t 34), guard := some (30, false) },
  { dst := some 36, op := .load false 1 (.t 35), guard := some (30, false) },
  { dst := some 37, op := .iaddr 1 (.t 33) (.t 36), guard := some (30, false) },
  { dst := some 38, op := .load false 1 (.t 37), guard := some (30, false) },
  { dst := some 39, op := .bin .leq (.t 32) (.t 38), guard := some (30, false) },
  { dst := some 40, op := .pick (.t 30) (.c (.v (.bool true))) (.t 39) },
  { dst := some 41, op := .move (.t 40) },
  { dst := some 42, op := .move (.t 0), guard := some (41, false) },
  { dst := some 43, op := .load true 12 (.t 6), guard := some (41, false) },
  { dst := some 44, op := .call 50 [(.t 42), (.t 43)], guard := some (41, false) },
  { dst := some 45, op := .pick (.t 41) (.c (.v (.bool true))) (.t 44) },
  { dst := some 46, op := .move (.t 45) },
  { dst := some 47, op := .move (.t 5), guard := some (46, false) },
  { dst := some 48, op := .bin .gtr (.t 47) (.c (.v (.int .i64 0))), guard := some (46, false) },
  { dst := some 49, op := .move (.t 48), guard := some (46, false) },
  { dst := some 50, op := .move (.t 1), guard := some (49, true) },
  { dst := some 51, op := .move (.t 5), guard := some (49, true) },
  { dst := some 52, op := .bin .sub (.t 51) (.c (.v (.int .i64 1))), guard := some (49, true) },
  { dst := some 53, op := .iaddr 12 (.t 50) (.t 52), guard := some (49, true) },
  { dst := some 54, op := .faddr 0 (.t 53), guard := some (49, true) },
  { dst := some 55, op := .load true 2 (.t 54), guard := some (49, true) },
  { dst := some 56, op := .faddr 0 (.t 6), guard := some (49, true) },
  { dst := some 57, op := .load true 2 (.t 56), guard := some (49, true) },
  { dst := some 58, op := .call 111 [(.t 55), (.t 57)], guard := some (49, true) },
  { dst := some 59, op := .bin .geq (.t 58) (.c (.v (.int .i64 0))), guard := some (49, true) },
  { dst := some 60, op := .pick (.t 49) (.t 59) (.c (.v (.bool false))), guard := some (46, false) },
  { dst := some 61, op := .pick (.t 46) (.c (.v (.bool true))) (.t 60) }])
 (.cond (.t 61) (.seq (.region [{ dst := some 4, op := .move (.c (.v (.bool false))) }])
 .ret) .skip))
 (.seq (.region [{ dst := some 7, op := .move (.c (.v (.int .i64 0))) }])
 (.block 2 (.loop (.seq (.seq (.region [{ dst := some 62, op := .move (.t 7) },
  { dst := some 63, op := .move (.t 5) },
  { dst := some 64, op := .bin .lss (.t 62) (.t 63) }])
 (.cond (.t 64) .skip (.exit 2)))
 (.seq (.block 3 (.seq (.dregion [{ dst := some 67, op := .move (.t 1) },
  { dst := some 68, op := .move (.t 7) },
  { dst := some 69, op := .iaddr 12 (.t 67) (.t 68) },
  { dst := some 70, op := .load true 12 (.t 69) },
  { dst := some 71, op := .load true 12 (.t 6) },
  { dst := some 72, op := .call 112 [(.t 70), (.t 71)] }])
 (.cond (.t 72) (.seq (.region [{ dst := some 4, op := .move (.c (.v (.bool false))) }])
 .ret) .skip)))
 (.region [{ dst := some 65, op := .move (.t 7) },
  { dst := some 66, op := .bin .add (.t 65) (.c (.v (.int .i64 1))) },
  { dst := some 7, op := .move (.t 66) }])))))))))
 (.region [{ dst := some 20, op := .move (.t 5) },
  { dst := some 21, op := .bin .add (.t 20) (.c (.v (.int .i64 1))) },
  { dst := some 5, op := .move (.t 21) }]))))))
 (.seq (.region [{ dst := some 4, op := .move (.c (.v (.bool true))) }])
 .ret))))⟩
/-- arras.replica.Own -/
def F74 : AFun := ⟨false, 20, [.cell 2 true 11], (.seq (.region [{ dst := some 1, op := .box 32 11 (.t 0) },
  { dst := some 2, op := .alloc 32 [.v (.int .i64 0), .v (.int .i64 0), .v (.slice none 0 0), .v (.slice none 0 0), .v (.slice none 0 0), .v (.slice none 0 0), .v (.slice none 0 0), .v (.slice none 0 0), .v (.int .i64 0), .v (.int .i64 0), .v (.int .i64 0)] }])
 (.seq (.dregion [{ dst := some 3, op := .faddr 2 (.t 1) },
  { dst := some 4, op := .load false 1 (.t 3) },
  { dst := some 5, op := .call 121 [(.t 4)] },
  { dst := some 6, op := .faddr 3 (.t 1) },
  { dst := some 7, op := .load false 1 (.t 6), un := [2] },
  { dst := some 8, op := .call 117 [(.t 7)] },
  { dst := some 9, op := .faddr 4 (.t 1) },
  { dst := some 10, op := .load false 1 (.t 9), un := [2, 5] },
  { dst := some 11, op := .call 117 [(.t 10)] },
  { dst := some 12, op := .faddr 5 (.t 1) },
  { dst := some 13, op := .load true 3 (.t 12), un := [2, 5, 8] },
  { dst := some 14, op := .call 122 [(.t 13)] },
  { dst := some 15, op := .faddr 2 (.t 1) },
  { dst := none, op := .store 1 (.t 15) (.t 5) },
  { dst := some 16, op := .faddr 3 (.t 1) },
  { dst := none, op := .store 1 (.t 16) (.t 8) },
  { dst := some 17, op := .faddr 4 (.t 1) },
  { dst := none, op := .store 1 (.t 17) (.t 11) },
  { dst := some 18, op := .faddr 5 (.t 1) },
  { dst := none, op := .store 3 (.t 18) (.t 14) }])
 (.seq (.region [{ dst := some 19, op := .load true 11 (.t 1) },
  { dst := none, op := .store 11 (.t 2) (.t 19) }])
 .ret)))⟩
/-- arras.have.Is -/
def F76 : AFun := ⟨true, 28, [.t 2], (.seq (.region [{ dst := some 2, op := .move (.c (.v (.bool false))) }])
 (.scope (.seq (.region [{ dst := some 3, op := .move (.c (.v (.int .i64 0))) }])
 (.seq (.label 0)
 (.seq (.seq (.region [{ dst := some 4, op := .move (.t 3) },
  { dst := some 5, op := .move (.t 0) },
  { dst := some 6, op := .len (.t 5) },
  { dst := some 7, op := .bin .eql (.t 4) (.t 6) }])
 (.cond (.t 7) (.seq (.region [{ dst := some 8, op := .move (.t 3) },
  { dst := some 9, op := .bin .geq (.t 8) (.c (.v (.int .i64 1))) },
  { dst := some 10, op := .move (.t 9) },
  { dst := some 11, op := .move (.t 3), guard := some (10, true) },
  { dst := some 12, op := .bin .leq (.t 11) (.c (.v (.int .i64 16))), guard := some (10, true) },
  { dst := some 13, op := .pick (.t 10) (.t 12) (.c (.v (.bool false))) },
  { dst := some 2, op := .move (.t 13) }])
 .ret) .skip))
 (.seq (.seq (.region [{ dst := some 14, op := .move (.t 0) },
  { dst := some 15, op := .move (.t 3) },
  { dst := some 16, op := .iaddr 1 (.t 14) (.t 15) },
  { dst := some 17, op := .load false 1 (.t 16) },
  { dst := some 18, op := .bin .geq (.t 17) (.c (.v (.int .i64 0))) },
  { dst := some 19, op := .move (.t 18) },
  { dst := some 20, op := .move (.t 0), guard := some (19, true) },
  { dst := some 21, op := .move (.t 3), guard := some (19, true) },
  { dst := some 22, op := .iaddr 1 (.t 20) (.t 21), guard := some (19, true) },
  { dst := some 23, op := .load false 1 (.t 22), guard := some (19, true) },
  { dst := some 24, op := .bin .leq (.t 23) (.c (.v (.int .i64 1099511627776))), guard := some (19, true) },
  { dst := some 25, op := .pick (.t 19) (.t 24) (.c (.v (.bool false))) }])
 (.cond (.t 25) (.seq (.region [{ dst := some 26, op := .move (.t 3) },
  { dst := some 27, op := .bin .add (.t 26) (.c (.v (.int .i64 1))) },
  { dst := some 3, op := .move (.t 27) }])
 (.goto 0)) .skip))
 (.seq (.region [{ dst := some 2, op := .move (.c (.v (.bool false))) }])
 .ret))))) (.seq (.region [{ dst := some 3, op := .move (.c (.v (.int .i64 0))) }])
 (.seq (.label 0)
 (.seq (.seq (.region [{ dst := some 4, op := .move (.t 3) },
  { dst := some 5, op := .move (.t 0) },
  { dst := some 6, op := .len (.t 5) },
  { dst := some 7, op := .bin .eql (.t 4) (.t 6) }])
 (.cond (.t 7) (.seq (.region [{ dst := some 8, op := .move (.t 3) },
  { dst := some 9, op := .bin .geq (.t 8) (.c (.v (.int .i64 1))) },
  { dst := some 10, op := .move (.t 9) },
  { dst := some 11, op := .move (.t 3), guard := some (10, true) },
  { dst := some 12, op := .bin .leq (.t 11) (.c (.v (.int .i64 16))), guard := some (10, true) },
  { dst := some 13, op := .pick (.t 10) (.t 12) (.c (.v (.bool false))) },
  { dst := some 2, op := .move (.t 13) }])
 .ret) .skip))
 (.seq (.seq (.region [{ dst := some 14, op := .move (.t 0) },
  { dst := some 15, op := .move (.t 3) },
  { dst := some 16, op := .iaddr 1 (.t 14) (.t 15) },
  { dst := some 17, op := .load false 1 (.t 16) },
  { dst := some 18, op := .bin .geq (.t 17) (.c (.v (.int .i64 0))) },
  { dst := some 19, op := .move (.t 18) },
  { dst := some 20, op := .move (.t 0), guard := some (19, true) },
  { dst := some 21, op := .move (.t 3), guard := some (19, true) },
  { dst := some 22, op := .iaddr 1 (.t 20) (.t 21), guard := some (19, true) },
  { dst := some 23, op := .load false 1 (.t 22), guard := some (19, true) },
  { dst := some 24, op := .bin .leq (.t 23) (.c (.v (.int .i64 1099511627776))), guard := some (19, true) },
  { dst := some 25, op := .pick (.t 19) (.t 24) (.c (.v (.bool false))) }])
 (.cond (.t 25) (.seq (.region [{ dst := some 26, op := .move (.t 3) },
  { dst := some 27, op := .bin .add (.t 26) (.c (.v (.int .i64 1))) },
  { dst := some 3, op := .move (.t 27) }])
 (.goto 0)) .skip))
 (.seq (.region [{ dst := some 2, op := .move (.c (.v (.bool false))) }])
 .ret)))))))⟩
/-- slices.Equal[[]int,int] -/
def F77 : AFun := ⟨true, 26, [.t 4], (.seq (.region [{ dst := some 4, op := .move (.c (.v (.bool false))) }])
 (.seq (.seq (.region [{ dst := some 6, op := .move (.t 0) },
  { dst := some 7, op := .len (.t 6) },
  { dst := some 8, op := .move (.t 1) },
  { dst := some 9, op := .len (.t 8) },
  { dst := some 10, op := .bin .neq (.t 7) (.t 9) }])
 (.cond (.t 10) (.seq (.region [{ dst := some 4, op := .move (.c (.v (.bool false))) }])
 .ret) .skip))
 (.seq (.seq (.region [{ dst := some 11, op := .move (.t 0) },
  { dst := some 12, op := .len (.t 11) },
  { dst := some 13, op := .move (.c (.v (.int .i64 0))) }])
 (.block 0 (.loop (.seq (.region [{ dst := some 14, op := .bin .lss (.t 13) (.t 12) }])
 (.seq (.cond (.t 14) .skip (.exit 0))
 (.seq (.block 1 (.seq (.region [{ dst := some 15, op := .move (.t 13) },
  { dst := some 5, op := .move (.t 15) }])
 (.seq (.dregion [{ dst := some 16, op := .move (.t 0) },
  { dst := some 17, op := .move (.t 5) },
  { dst := some 18, op := .iaddr 1 (.t 16) (.t 17) },
  { dst := some 19, op := .load false 1 (.t 18) },
  { dst := some 20, op := .move (.t 1) },
  { dst := some 21, op := .move (.t 5) },
  { dst := some 22, op := .iaddr 1 (.t 20) (.t 21) },
  { dst := some 23, op := .load false 1 (.t 22) },
  { dst := some 24, op := .bin .neq (.t 19) (.t 23) }])
 (.cond (.t 24) (.seq (.region [{ dst := some 4, op := .move (.c (.v (.bool false))) }])
 .ret) .skip))))
 (.region [{ dst := some 25, op := .bin .add (.t 13) (.c (.v (.int .i64 1))) },
  { dst := some 13, op := .move (.t 25) }])))))))
 (.seq (.region [{ dst := some 4, op := .move (.c (.v (.bool true))) }])
 .ret))))⟩
/-- arras.replica.sameShape -/
def F78 : AFun := ⟨true, 28, [.t 4], (.seq (.region [{ dst := some 2, op := .box 30 3 (.t 0) },
  { dst := some 3, op := .box 30 3 (.t 1) },
  { dst := some 4, op := .move (.c (.v (.bool false))) }])
 (.seq (.region [{ dst := some 5, op := .faddr 0 (.t 2) },
  { dst := some 6, op := .faddr 0 (.t 5) },
  { dst := some 7, op := .load false 1 (.t 6) },
  { dst := some 8, op := .faddr 0 (.t 3) },
  { dst := some 9, op := .faddr 0 (.t 8) },
  { dst := some 10, op := .load false 1 (.t 9) },
  { dst := some 11, op := .call 124 [(.t 7), (.t 10)] },
  { dst := some 12, op := .move (.t 11) },
  { dst := some 13, op := .faddr 0 (.t 2), guard := some (12, true) },
  { dst := some 14, op := .faddr 1 (.t 13), guard := some (12, true) },
  { dst := some 15, op := .load false 1 (.t 14), guard := some (12, true) },
  { dst := some 16, op := .faddr 0 (.t 3), guard := some (12, true) },
  { dst := some 17, op := .faddr 1 (.t 16), guard := some (12, true) },
  { dst := some 18, op := .load false 1 (.t 17), guard := some (12, true) },
  { dst := some 19, op := .call 125 [(.t 15), (.t 18), (.c (.fn 126 []))], guard := some (12, true) },
  { dst := some 20, op := .pick (.t 12) (.t 19) (.c (.v (.bool false))) },
  { dst := some 21, op := .move (.t 20) },
  { dst := some 22, op := .faddr 2 (.t 2), guard := some (21, true) },
  { dst := some 23, op := .load false 1 (.t 22), guard := some (21, true) },
  { dst := some 24, op := .faddr 2 (.t 3), guard := some (21, true) },
  { dst := some 25, op := .load false 1 (.t 24), guard := some (21, true) },
  { dst := some 26, op := .call 127 [(.t 23), (.t 25), (.c (.fn 128 []))], guard := some (21, true) },
  { dst := some 27, op := .pick (.t 21) (.t 26) (.c (.v (.bool false))) },
  { dst := some 4, op := .move (.t 27) }])
 .ret))⟩
/-- arras.hold.May -/
def F79 : AFun := ⟨true, 59, [.t 4], (.seq (.region [{ dst := some 4, op := .move (.c (.v (.bool false))) }])
 (.scope (.seq (.region [{ dst := some 5, op := .move (.c (.v (.int .i64 0))) }])
 (.seq (.region [{ dst := some 6, op := .alloc 75 [.v (.int .i64 0), .v (.int .i64 0), .v (.int .i64 0), .v (.slice none 0 0), .v (.int .i64 0), .v (.int .i64 0), .v (.int .i64 0), .v (.int .i64 0), .v (.int .i64 0), .v (.string ⟨#[]⟩), .v (.int .i64 0), .v (.int .i64 0)] }])
 (.seq (.label 0)
 (.seq (.seq (.region [{ dst := some 7, op := .move (.t 5) },
  { dst := some 8, op := .move (.t 1) },
  { dst := some 9, op := .len (.t 8) },
  { dst := some 10, op := .bin .eql (.t 7) (.t 9) }])
 (.cond (.t 10) (.seq (.region [{ dst := some 11, op := .move (.t 5) },
  { dst := some 12, op := .bin .leq (.t 11) (.c (.v (.int .i64 16))) },
  { dst := some 4, op := .move (.t 12) }])
 .ret) .skip))
 (.seq (.region [{ dst := some 13, op := .move (.t 1) },
  { dst := some 14, op := .move (.t 5) },
  { dst := some 15, op := .iaddr 12 (.t 13) (.t 14) },
  { dst := some 16, op := .load true 12 (.t 15) },
  { dst := none, op := .store 12 (.t 6) (.t 16) }])
 (.seq (.seq (.dregion [{ dst := some 17, op := .move (.t 0) },
  { dst := some 18, op := .load true 12 (.t 6) },
  { dst := some 19, op := .call 129 [(.t 17), (.t 18)] },
  { dst := some 20, op := .un .not (.t 19) },
  { dst := some 21, op := .move (.t 20) },
  { dst := some 22, op := .faddr 2 (.t 6), guard := some (21, false) },
  { dst := some 23, op := .load false 1 (.t 22), guard := some (21, false) },
  { dst := some 24, op := .move (.t 0), guard := some (21, false) },
  { dst := some 25, op := .faddr 0 (.t 6), guard := some (21, false) },
  { dst := some 26, op := .faddr 1 (.t 25), guard := some (21, false) },
  { dst := some 27, op := .load false 1 (.t 26), guard := some (21, false) },
  { dst := some 28, op := .iaddr 1 (.t 24) (.t 27), guard := some (21, false) },
  { dst := some 29, op := .load false 1 (.t 28), guard := some (21, false) },
  { dst := some 30, op := .bin .leq (.t 23) (.t 29), guard := some (21, false) },
  { dst := some 31, op := .pick (.t 21) (.c (.v (.bool true))) (.t 30) },
  { dst := some 32, op := .move (.t 31) },
  { dst := some 33, op := .move (.t 0), guard := some (32, false) },
  { dst := some 34, op := .load true 12 (.t 6), guard := some (32, false) },
  { dst := some 35, op := .call 86 [(.t 33), (.t 34)], guard := some (32, false) },
  { dst := some 36, op := .pick (.t 32) (.c (.v (.bool true))) (.t 35) },
  { dst := some 37, op := .move (.t 36) },
  { dst := some 38, op := .move (.t 5), guard := some (37, false) },
  { dst := some 39, op := .bin .gtr (.t 38) (.c (.v (.int .i64 0))), guard := some (37, false) },
  { dst := some 40, op := .move (.t 39), guard := some (37, false) },
  { dst := some 41, op := .move (.t 1), guard := some (40, true) },
  { dst := some 42, op := .move (.t 5), guard := some (40, true) },
  { dst := some 43, op := .bin .sub (.t 42) (.c (.v (.int .i64 1))), guard := some (40, true) },
  { dst := some 44, op := .iaddr 12 (.t 41) (.t 43), guard := some (40, true) },
  { dst := some 45, op := .load true 12 (.t 44), guard := some (40, true) },
  { dst := some 46, op := .load true 12 (.t 6), guard := some (40, true) },
  { dst := some 47, op := .call 130 [(.t 45), (.t 46)], guard := some (40, true) },
  { dst := some 48, op := .un .not (.t 47), guard := some (40, true) },
  { dst := some 49, op := .pick (.t 40) (.t 48) (.c (.v (.bool false))), guard := some (37, false) },
  { dst := some 50, op := .pick (.t 37) (.c (.v (.bool true))) (.t 49) }])
 (.cond (.t 50) (.goto 1) .skip))
 (.seq (.seq (.region [{ dst := some 51, op := .move (.t 1) },
  { dst := some 52, op := .move (.t 5) },
  { dst := some 53, op := .slice 12 (.t 51) none (some (.t 52)) none },
  { dst := some 54, op := .mkfn 132 [(.t 6)] },
  { dst := some 55, op := .call 131 [(.t 53), (.t 54)] },
  { dst := some 56, op := .un .not (.t 55) }])
 (.cond (.t 56) (.seq (.region [{ dst := some 57, op := .move (.t 5) },
  { dst := some 58, op := .bin .add (.t 57) (.c (.v (.int .i64 1))) },
  { dst := some 5, op := .move (.t 58) }])
 (.goto 0)) .skip))
 (.seq (.label 1)
 (.seq (.region [{ dst := some 4, op := .move (.c (.v (.bool false))) }])
 .ret))))))))) (.seq (.region [{ dst := some 5, op := .move (.c (.v (.int .i64 0))) }])
 (.seq (.region [{ dst := some 6, op := .alloc 75 [.v (.int .i64 0), .v (.int .i64 0), .v (.int .i64 0), .v (.slice none 0 0), .v (.int .i64 0), .v (.int .i64 0), .v (.int .i64 0), .v (.int .i64 0), .v (.int .i64 0), .v (.string ⟨#[]⟩), .v (.int .i64 0), .v (.int .i64 0)] }])
 (.seq (.label 0)
 (.seq (.seq (.region [{ dst := some 7, op := .move (.t 5) },
  { dst := some 8, op := .move (.t 1) },
  { dst := some 9, op := .len (.t 8) },
  { dst := some 10, op := .bin .eql (.t 7) (.t 9) }])
 (.cond (.t 10) (.seq (.region [{ dst := some 11, op := .move (.t 5) },
  { dst := some 12, op := .bin .leq (.t 11) (.c (.v (.int .i64 16))) },
  { dst := some 4, op := .move (.t 12) }])
 .ret) .skip))
 (.seq (.region [{ dst := some 13, op := .move (.t 1) },
  { dst := some 14, op := .move (.t 5) },
  { dst := some 15, op := .iaddr 12 (.t 13) (.t 14) },
  { dst := some 16, op := .load true 12 (.t 15) },
  { dst := none, op := .store 12 (.t 6) (.t 16) }])
 (.seq (.seq (.dregion [{ dst := some 17, op := .move (.t 0) },
  { dst := some 18, op := .load true 12 (.t 6) },
  { dst := some 19, op := .call 129 [(.t 17), (.t 18)] },
  { dst := some 20, op := .un .not (.t 19) },
  { dst := some 21, op := .move (.t 20) },
  { dst := some 22, op := .faddr 2 (.t 6), guard := some (21, false) },
  { dst := some 23, op := .load false 1 (.t 22), guard := some (21, false) },
  { dst := some 24, op := .move (.t 0), guard := some (21, false) },
  { dst := some 25, op := .faddr 0 (.t 6), guard := some (21, false) },
  { dst := some 26, op := .faddr 1 (.t 25), guard := some (21, false) },
  { dst := some 27, op := .load false 1 (.t 26), guard := some (21, false) },
  { dst := some 28, op := .iaddr 1 (.t 24) (.t 27), guard := some (21, false) },
  { dst := some 29, op := .load false 1 (.t 28), guard := some (21, false) },
  { dst := some 30, op := .bin .leq (.t 23) (.t 29), guard := some (21, false) },
  { dst := some 31, op := .pick (.t 21) (.c (.v (.bool true))) (.t 30) },
  { dst := some 32, op := .move (.t 31) },
  { dst := some 33, op := .move (.t 0), guard := some (32, false) },
  { dst := some 34, op := .load true 12 (.t 6), guard := some (32, false) },
  { dst := some 35, op := .call 86 [(.t 33), (.t 34)], guard := some (32, false) },
  { dst := some 36, op := .pick (.t 32) (.c (.v (.bool true))) (.t 35) },
  { dst := some 37, op := .move (.t 36) },
  { dst := some 38, op := .move (.t 5), guard := some (37, false) },
  { dst := some 39, op := .bin .gtr (.t 38) (.c (.v (.int .i64 0))), guard := some (37, false) },
  { dst := some 40, op := .move (.t 39), guard := some (37, false) },
  { dst := some 41, op := .move (.t 1), guard := some (40, true) },
  { dst := some 42, op := .move (.t 5), guard := some (40, true) },
  { dst := some 43, op := .bin .sub (.t 42) (.c (.v (.int .i64 1))), guard := some (40, true) },
  { dst := some 44, op := .iaddr 12 (.t 41) (.t 43), guard := some (40, true) },
  { dst := some 45, op := .load true 12 (.t 44), guard := some (40, true) },
  { dst := some 46, op := .load true 12 (.t 6), guard := some (40, true) },
  { dst := some 47, op := .call 130 [(.t 45), (.t 46)], guard := some (40, true) },
  { dst := some 48, op := .un .not (.t 47), guard := some (40, true) },
  { dst := some 49, op := .pick (.t 40) (.t 48) (.c (.v (.bool false))), guard := some (37, false) },
  { dst := some 50, op := .pick (.t 37) (.c (.v (.bool true))) (.t 49) }])
 (.cond (.t 50) (.goto 1) .skip))
 (.seq (.seq (.region [{ dst := some 51, op := .move (.t 1) },
  { dst := some 52, op := .move (.t 5) },
  { dst := some 53, op := .slice 12 (.t 51) none (some (.t 52)) none },
  { dst := some 54, op := .mkfn 132 [(.t 6)] },
  { dst := some 55, op := .call 131 [(.t 53), (.t 54)] },
  { dst := some 56, op := .un .not (.t 55) }])
 (.cond (.t 56) (.seq (.region [{ dst := some 57, op := .move (.t 5) },
  { dst := some 58, op := .bin .add (.t 57) (.c (.v (.int .i64 1))) },
  { dst := some 5, op := .move (.t 58) }])
 (.goto 0)) .skip))
 (.seq (.label 1)
 (.seq (.region [{ dst := some 4, op := .move (.c (.v (.bool false))) }])
 .ret)))))))))))⟩
/-- arras.replica.edits -/
def F80 : AFun := ⟨false, 49, [.cell 4 true 9], (.seq (.region [{ dst := some 3, op := .box 51 10 (.t 1) },
  { dst := some 4, op := .alloc 47 [.v (.int .i64 0), .v (.int .i64 0), .v (.int .i64 0), .v (.slice none 0 0), .v (.int .i64 0), .v (.int .i64 0), .v (.complex .f64 0 0), .v (.complex .f64 0 0), .v (.slice none 0 0)] }])
 (.seq (.dregion [{ dst := some 9, op := .move (.t 0) },
  { dst := some 10, op := .nilChk (.t 9) },
  { dst := some 11, op := .load true 11 (.t 10) },
  { dst := some 12, op := .load true 10 (.t 3) },
  { dst := some 13, op := .call 134 [(.t 11), (.t 12)] },
  { dst := some 8, op := .move (.t 13) },
  { dst := some 14, op := .ext (.t 8) 0 },
  { dst := some 15, op := .ext (.t 8) 1 },
  { dst := some 5, op := .alloc 75 [.v (.int .i64 0), .v (.int .i64 0), .v (.int .i64 0), .v (.slice none 0 0), .v (.int .i64 0), .v (.int .i64 0), .v (.int .i64 0), .v (.int .i64 0), .v (.int .i64 0), .v (.string ⟨#[]⟩), .v (.int .i64 0), .v (.int .i64 0)], un := [2, 3, 4] },
  { dst := none, op := .store 12 (.t 5) (.t 14) },
  { dst := some 6, op := .move (.t 15) }])
 (.seq (.seq (.region [{ dst := some 16, op := .move (.t 6) },
  { dst := some 17, op := .bin .eql (.t 16) (.c (.v (.int .i64 0))) },
  { dst := some 18, op := .move (.t 17) },
  { dst := some 19, op := .load true 12 (.t 5), guard := some (18, true) },
  { dst := some 20, op := .call 85 [(.t 19)], guard := some (18, true) },
  { dst := some 21, op := .un .not (.t 20), guard := some (18, true) },
  { dst := some 22, op := .pick (.t 18) (.t 21) (.c (.v (.bool false))) }])
 (.cond (.t 22) (.region [{ dst := some 6, op := .move (.c (.v (.int .i64 1))) }]) .skip))
 (.seq (.seq (.region [{ dst := some 23, op := .move (.t 6) },
  { dst := some 24, op := .bin .eql (.t 23) (.c (.v (.int .i64 0))) }])
 (.cond (.t 24) (.dregion [{ dst := some 25, op := .move (.t 0) },
  { dst := some 26, op := .nilChk (.t 25) },
  { dst := some 27, op := .faddr 5 (.t 26) },
  { dst := some 28, op := .load true 3 (.t 27) },
  { dst := some 29, op := .load true 12 (.t 5) },
  { dst := some 30, op := .call 135 [(.t 28), (.t 29)] },
  { dst := some 6, op := .move (.t 30) }]) .skip))
 (.seq (.seq (.region [{ dst := some 31, op := .move (.t 6) },
  { dst := some 32, op := .bin .eql (.t 31) (.c (.v (.int .i64 0))) }])
 (.cond (.t 32) (.region [{ dst := some 33, op := .move (.t 0) },
  { dst := some 34, op := .load true 12 (.t 5) },
  { dst := some 35, op := .call 101 [(.t 33), (.t 34)] },
  { dst := some 6, op := .move (.t 35) }]) .skip))
 (.seq (.region [{ dst := some 36, op := .move (.t 6) },
  { dst := some 37, op := .build [.v (.int .i64 0), .v (.int .i64 0), .v (.int .i64 0), .v (.slice none 0 0), .v (.int .i64 0), .v (.int .i64 0), .v (.complex .f64 0 0), .v (.complex .f64 0 0), .v (.slice none 0 0)] [(0, 1, (.t 36))] },
  { dst := some 7, op := .alloc 47 [.v (.int .i64 0), .v (.int .i64 0), .v (.int .i64 0), .v (.slice none 0 0), .v (.int .i64 0), .v (.int .i64 0), .v (.complex .f64 0 0), .v (.complex .f64 0 0), .v (.slice none 0 0)] },
  { dst := none, op := .store 9 (.t 7) (.t 37) }])
 (.seq (.seq (.region [{ dst := some 38, op := .move (.t 6) },
  { dst := some 39, op := .bin .eql (.t 38) (.c (.v (.int .i64 0))) },
  { dst := some 40, op := .move (.t 39) },
  { dst := some 41, op := .faddr 0 (.t 3), guard := some (40, true) },
  { dst := some 42, op := .load false 1 (.t 41), guard := some (40, true) },
  { dst := some 43, op := .bin .eql (.t 42) (.c (.v (.int .i64 1))), guard := some (40, true) },
  { dst := some 44, op := .pick (.t 40) (.t 43) (.c (.v (.bool false))) }])
 (.cond (.t 44) (.region [{ dst := some 45, op := .faddr 5 (.t 5) },
  { dst := some 46, op := .load true 2 (.t 45) },
  { dst := some 47, op := .faddr 1 (.t 7) },
  { dst := none, op := .store 2 (.t 47) (.t 46) }]) .skip))
 (.seq (.region [{ dst := some 48, op := .load true 9 (.t 7) },
  { dst := none, op := .store 9 (.t 4) (.t 48) }])
 .ret))))))))⟩
/-- arras.arrasref0.CopyNumbers -/
def F84 : AFun := ⟨true, 19, [.t 2], (.seq (.region [{ dst := some 2, op := .move (.c (.v (.slice none 0 0))) }])
 (.seq (.region [{ dst := some 3, op := .move (.c (.v (.slice none 0 0))) }])
 (.seq (.seq (.region [{ dst := some 4, op := .move (.c (.v (.int .i64 0))) }])
 (.block 0 (.loop (.seq (.seq (.region [{ dst := some 5, op := .move (.t 4) },
  { dst := some 6, op := .move (.t 0) },
  { dst := some 7, op := .len (.t 6) },
  { dst := some 8, op := .bin .lss (.t 5) (.t 7) }])
 (.cond (.t 8) .skip (.exit 0)))
 (.seq (.block 1 (.region [{ dst := some 11, op := .move (.t 3) },
  { dst := some 12, op := .move (.t 0) },
  { dst := some 13, op := .move (.t 4) },
  { dst := some 14, op := .iaddr 1 (.t 12) (.t 13) },
  { dst := some 15, op := .load false 1 (.t 14) },
  { dst := some 16, op := .buildSlice 3 1 1 [.v (.int .i64 0)] [(0, 1, (.t 15))] },
  { dst := some 17, op := .append 3 1 8 (.t 11) (.t 16) },
  { dst := some 3, op := .move (.t 17) }]))
 (.region [{ dst := some 9, op := .move (.t 4) },
  { dst := some 10, op := .bin .add (.t 9) (.c (.v (.int .i64 1))) },
  { dst := some 4, op := .move (.t 10) }]))))))
 (.seq (.region [{ dst := some 18, op := .move (.t 3) },
  { dst := some 2, op := .move (.t 18) }])
 .ret))))⟩
/-- arras.op.May -/
def F85 : AFun := ⟨true, 48, [.t 2], (.seq (.region [{ dst := some 1, op := .box 75 12 (.t 0) },
  { dst := some 2, op := .move (.c (.v (.bool false))) }])
 (.seq (.seq (.region [{ dst := some 3, op := .faddr 0 (.t 1) },
  { dst := some 4, op := .load true 2 (.t 3) },
  { dst := some 5, op := .call 140 [(.t 4)] },
  { dst := some 6, op := .un .not (.t 5) },
  { dst := some 7, op := .move (.t 6) },
  { dst := some 8, op := .faddr 3 (.t 1), guard := some (7, false) },
  { dst := some 9, op := .load false 1 (.t 8), guard := some (7, false) },
  { dst := some 10, op := .call 76 [(.t 9)], guard := some (7, false) },
  { dst := some 11, op := .un .not (.t 10), guard := some (7, false) },
  { dst := some 12, op := .pick (.t 7) (.c (.v (.bool true))) (.t 11) },
  { dst := some 13, op := .move (.t 12) },
  { dst := some 14, op := .faddr 3 (.t 1), guard := some (13, false) },
  { dst := some 15, op := .load false 1 (.t 14), guard := some (13, false) },
  { dst := some 16, op := .len (.t 15), guard := some (13, false) },
  { dst := some 17, op := .faddr 0 (.t 1), guard := some (13, false) },
  { dst := some 18, op := .faddr 1 (.t 17), guard := some (13, false) },
  { dst := some 19, op := .load false 1 (.t 18), guard := some (13, false) },
  { dst := some 20, op := .bin .leq (.t 16) (.t 19), guard := some (13, false) },
  { dst := some 21, op := .pick (.t 13) (.c (.v (.bool true))) (.t 20) },
  { dst := some 22, op := .move (.t 21) },
  { dst := some 23, op := .faddr 5 (.t 1), guard := some (22, false) },
  { dst := some 24, op := .load true 2 (.t 23), guard := some (22, false) },
  { dst := some 25, op := .call 140 [(.t 24)], guard := some (22, false) },
  { dst := some 26, op := .un .not (.t 25), guard := some (22, false) },
  { dst := some 27, op := .pick (.t 22) (.c (.v (.bool true))) (.t 26) }])
 (.cond (.t 27) (.seq (.region [{ dst := some 2, op := .move (.c (.v (.bool false))) }])
 .ret) .skip))
 (.seq (.dregion [{ dst := some 28, op := .faddr 2 (.t 1) },
  { dst := some 29, op := .load false 1 (.t 28) },
  { dst := some 30, op := .faddr 3 (.t 1) },
  { dst := some 31, op := .load false 1 (.t 30) },
  { dst := some 32, op := .faddr 0 (.t 1) },
  { dst := some 33, op := .faddr 1 (.t 32) },
  { dst := some 34, op := .load false 1 (.t 33) },
  { dst := some 35, op := .iaddr 1 (.t 31) (.t 34) },
  { dst := some 36, op := .load false 1 (.t 35) },
  { dst := some 37, op := .bin .add (.t 36) (.c (.v (.int .i64 1))) },
  { dst := some 38, op := .bin .eql (.t 29) (.t 37) },
  { dst := some 39, op := .move (.t 38) },
  { dst := some 40, op := .faddr 2 (.t 1), guard := some (39, true) },
  { dst := some 41, op := .load false 1 (.t 40), guard := some (39, true) },
  { dst := some 42, op := .bin .leq (.t 41) (.c (.v (.int .i64 1099511627776))), guard := some (39, true) },
  { dst := some 43, op := .pick (.t 39) (.t 42) (.c (.v (.bool false))) },
  { dst := some 44, op := .move (.t 43) },
  { dst := some 45, op := .load true 12 (.t 1), guard := some (44, true) },
  { dst := some 46, op := .call 141 [(.t 45)], guard := some (44, true) },
  { dst := some 47, op := .pick (.t 44) (.t 46) (.c (.v (.bool false))) },
  { dst := some 2, op := .move (.t 47) }])
 .ret)))⟩
/-- arras.hold.IsReady -/
def F86 : AFun := ⟨true, 21, [.t 4], (.seq (.region [{ dst := some 3, op := .box 75 12 (.t 1) },
  { dst := some 4, op := .move (.c (.v (.bool false))) }])
 (.seq (.dregion [{ dst := some 5, op := .move (.t 0) },
  { dst := some 6, op := .faddr 0 (.t 3) },
  { dst := some 7, op := .faddr 1 (.t 6) },
  { dst := some 8, op := .load false 1 (.t 7) },
  { dst := some 9, op := .iaddr 1 (.t 5) (.t 8) },
  { dst := some 10, op := .load false 1 (.t 9) },
  { dst := some 11, op := .faddr 2 (.t 3) },
  { dst := some 12, op := .load false 1 (.t 11) },
  { dst := some 13, op := .bin .sub (.t 12) (.c (.v (.int .i64 1))) },
  { dst := some 14, op := .bin .eql (.t 10) (.t 13) },
  { dst := some 15, op := .move (.t 14) },
  { dst := some 16, op := .move (.t 0), guard := some (15, true) },
  { dst := some 17, op := .faddr 3 (.t 3), guard := some (15, true) },
  { dst := some 18, op := .load false 1 (.t 17), guard := some (15, true) },
  { dst := some 19, op := .call 142 [(.t 16), (.t 18)], guard := some (15, true) },
  { dst := some 20, op := .pick (.t 15) (.t 19) (.c (.v (.bool false))) },
  { dst := some 4, op := .move (.t 20) }])
 .ret))⟩
/-- arras.replica.apply -/
def F87 : AFun := ⟨false, 35, [], (.seq (.region [{ dst := some 3, op := .box 75 12 (.t 1) }])
 (.seq (.dregion [{ dst := some 4, op := .move (.t 0) },
  { dst := some 5, op := .move (.t 0) },
  { dst := some 6, op := .nilChk (.t 5) },
  { dst := some 7, op := .faddr 3 (.t 6) },
  { dst := some 8, op := .load false 1 (.t 7) },
  { dst := some 9, op := .load true 12 (.t 3) },
  { dst := some 10, op := .call 143 [(.t 9)] },
  { dst := some 11, op := .buildSlice 75 12 1 [.v (.int .i64 0), .v (.int .i64 0), .v (.int .i64 0), .v (.slice none 0 0), .v (.int .i64 0), .v (.int .i64 0), .v (.int .i64 0), .v (.int .i64 0), .v (.int .i64 0), .v (.string ⟨#[]⟩), .v (.int .i64 0), .v (.int .i64 0)] [(0, 12, (.t 10))], un := [4] },
  { dst := some 12, op := .append 75 12 120 (.t 8) (.t 11) },
  { dst := some 13, op := .nilChk (.t 4) },
  { dst := some 14, op := .faddr 3 (.t 13) },
  { dst := none, op := .store 1 (.t 14) (.t 12) }])
 (.seq (.dregion [{ dst := some 15, op := .move (.t 0) },
  { dst := some 16, op := .move (.t 0) },
  { dst := some 17, op := .nilChk (.t 16) },
  { dst := some 18, op := .faddr 1 (.t 17) },
  { dst := some 19, op := .load false 1 (.t 18) },
  { dst := some 20, op := .faddr 0 (.t 3) },
  { dst := some 21, op := .faddr 0 (.t 20) },
  { dst := some 22, op := .load false 1 (.t 21) },
  { dst := some 23, op := .max [(.t 19), (.t 22)] },
  { dst := some 24, op := .nilChk (.t 15) },
  { dst := some 25, op := .faddr 1 (.t 24) },
  { dst := none, op := .store 1 (.t 25) (.t 23) }])
 (.dregion [{ dst := some 26, op := .move (.t 0) },
  { dst := some 27, op := .move (.t 0) },
  { dst := some 28, op := .nilChk (.t 27) },
  { dst := some 29, op := .faddr 5 (.t 28) },
  { dst := some 30, op := .load true 3 (.t 29) },
  { dst := some 31, op := .load true 12 (.t 3) },
  { dst := some 32, op := .call 144 [(.t 30), (.t 31)] },
  { dst := some 33, op := .nilChk (.t 26) },
  { dst := some 34, op := .faddr 5 (.t 33) },
  { dst := none, op := .store 3 (.t 34) (.t 32) }]))))⟩
/-- arras.arrasref10.Op -/
def F88 : AFun := ⟨true, 105, [.t 2], (.seq (.region [{ dst := some 1, op := .box 75 12 (.t 0) },
  { dst := some 2, op := .move (.c (.v (.bool false))) }])
 (.seq (.seq (.dregion [{ dst := some 4, op := .faddr 0 (.t 1) },
  { dst := some 5, op := .load true 2 (.t 4) },
  { dst := some 6, op := .call 145 [(.t 5)] },
  { dst := some 7, op := .un .not (.t 6) },
  { dst := some 8, op := .move (.t 7) },
  { dst := some 9, op := .faddr 3 (.t 1), guard := some (8, false) },
  { dst := some 10, op := .load false 1 (.t 9), guard := some (8, false) },
  { dst := some 11, op := .call 104 [(.t 10)], guard := some (8, false) },
  { dst := some 12, op := .un .not (.t 11), guard := some (8, false) },
  { dst := some 13, op := .pick (.t 8) (.c (.v (.bool true))) (.t 12) },
  { dst := some 14, op := .move (.t 13) },
  { dst := some 15, op := .faddr 3 (.t 1), guard := some (14, false) },
  { dst := some 16, op := .load false 1 (.t 15), guard := some (14, false) },
  { dst := some 17, op := .len (.t 16), guard := some (14, false) },
  { dst := some 18, op := .faddr 0 (.t 1), guard := some (14, false) },
  { dst := some 19, op := .faddr 1 (.t 18), guard := some (14, false) },
  { dst := some 20, op := .load false 1 (.t 19), guard := some (14, false) },
  { dst := some 21, op := .bin .leq (.t 17) (.t 20), guard := some (14, false) },
  { dst := some 22, op := .pick (.t 14) (.c (.v (.bool true))) (.t 21) },
  { dst := some 23, op := .move (.t 22) },
  { dst := some 24, op := .faddr 2 (.t 1), guard := some (23, false) },
  { dst := some 25, op := .load false 1 (.t 24), guard := some (23, false) },
  { dst := some 26, op := .bin .lss (.t 25) (.c (.v (.int .i64 1))), guard := some (23, false) },
  { dst := some 27, op := .pick (.t 23) (.c (.v (.bool true))) (.t 26) },
  { dst := some 28, op := .move (.t 27) },
  { dst := some 29, op := .faddr 2 (.t 1), guard := some (28, false) },
  { dst := some 30, op := .load false 1 (.t 29), guard := some (28, false) },
  { dst := some 31, op := .bin .gtr (.t 30) (.c (.v (.int .i64 1099511627776))), guard := some (28, false) },
  { dst := some 32, op := .pick (.t 28) (.c (.v (.bool true))) (.t 31) },
  { dst := some 33, op := .move (.t 32) },
  { dst := some 34, op := .faddr 2 (.t 1), guard := some (33, false) },
  { dst := some 35, op := .load false 1 (.t 34), guard := some (33, false) },
  { dst := some 36, op := .faddr 3 (.t 1), guard := some (33, false) },
  { dst := some 37, op := .load false 1 (.t 36), guard := some (33, false) },
  { dst := some 38, op := .faddr 0 (.t 1), guard := some (33, false) },
  { dst := some 39, op := .faddr 1 (.t 38), guard := some (33, false) },
  { dst := some 40, op := .load false 1 (.t 39), guard := some (33, false) },
  { dst := some 41, op := .iaddr 1 (.t 37) (.t 40), guard := some (33, false) },
  { dst := some 42, op := .load false 1 (.t 41), guard := some (33, false) },
  { dst := some 43, op := .bin .add (.t 42) (.c (.v (.int .i64 1))), guard := some (33, false) },
  { dst := some 44, op := .bin .neq (.t 35) (.t 43), guard := some (33, false) },
  { dst := some 45, op := .pick (.t 33) (.c (.v (.bool true))) (.t 44) },
  { dst := some 46, op := .move (.t 45) },
  { dst := some 47, op := .faddr 5 (.t 1), guard := some (46, false) },
  { dst := some 48, op := .load true 2 (.t 47), guard := some (46, false) },
  { dst := some 49, op := .call 145 [(.t 48)], guard := some (46, false) },
  { dst := some 50, op := .un .not (.t 49), guard := some (46, false) },
  { dst := some 51, op := .pick (.t 46) (.c (.v (.bool true))) (.t 50) }])
 (.cond (.t 51) (.seq (.region [{ dst := some 2, op := .move (.c (.v (.bool false))) }])
 .ret) .skip))
 (.seq (.region [{ dst := some 52, op := .faddr 0 (.t 1) },
  { dst := some 53, op := .load true 2 (.t 52) },
  { dst := some 54, op := .faddr 2 (.t 1) },
  { dst := some 55, op := .load false 1 (.t 54) },
  { dst := some 56, op := .faddr 3 (.t 1) },
  { dst := some 57, op := .load false 1 (.t 56) },
  { dst := some 58, op := .faddr 4 (.t 1) },
  { dst := some 59, op := .load false 1 (.t 58) },
  { dst := some 60, op := .faddr 5 (.t 1) },
  { dst := some 61, op := .load true 2 (.t 60) },
  { dst := some 62, op := .build [.v (.int .i64 0), .v (.int .i64 0), .v (.int .i64 0), .v (.slice none 0 0), .v (.int .i64 0), .v (.int .i64 0), .v (.int .i64 0), .v (.int .i64 0), .v (.int .i64 0), .v (.string ⟨#[]⟩), .v (.int .i64 0), .v (.int .i64 0)] [(0, 2, (.t 53)), (2, 1, (.t 55)), (3, 1, (.t 57)), (4, 1, (.t 59)), (5, 2, (.t 61))] },
  { dst := some 3, op := .alloc 75 [.v (.int .i64 0), .v (.int .i64 0), .v (.int .i64 0), .v (.slice none 0 0), .v (.int .i64 0), .v (.int .i64 0), .v (.int .i64 0), .v (.int .i64 0), .v (.int .i64 0), .v (.string ⟨#[]⟩), .v (.int .i64 0), .v (.int .i64 0)] },
  { dst := none, op := .store 12 (.t 3) (.t 62) }])
 (.seq (.seq (.region [{ dst := some 63, op := .faddr 4 (.t 1) },
  { dst := some 64, op := .load false 1 (.t 63) }])
 (.block 0 (.seq (.region [{ dst := some 66, op := .bin .eql (.t 64) (.c (.v (.int .i64 1))) },
  { dst := some 65, op := .move (.t 66) }])
 (.cond (.t 65) (.seq (.dregion [{ dst := some 67, op := .faddr 7 (.t 1) },
  { dst := some 68, op := .load true 2 (.t 67) },
  { dst := some 69, op := .faddr 9 (.t 1) },
  { dst := some 70, op := .load false 1 (.t 69) },
  { dst := some 71, op := .faddr 7 (.t 3) },
  { dst := none, op := .store 2 (.t 71) (.t 68), un := [3] },
  { dst := some 72, op := .faddr 9 (.t 3) },
  { dst := none, op := .store 1 (.t 72) (.t 70) }])
 (.seq (.region [{ dst := some 73, op := .load true 12 (.t 3) },
  { dst := some 74, op := .load true 12 (.t 1) },
  { dst := some 75, op := .call 52 [(.t 73), (.t 74)] },
  { dst := some 76, op := .move (.t 75) },
  { dst := some 77, op := .faddr 7 (.t 1), guard := some (76, true) },
  { dst := some 78, op := .load true 2 (.t 77), guard := some (76, true) },
  { dst := some 79, op := .call 146 [(.t 78)], guard := some (76, true) },
  { dst := some 80, op := .pick (.t 76) (.t 79) (.c (.v (.bool false))) },
  { dst := some 81, op := .move (.t 80) },
  { dst := some 82, op := .faddr 9 (.t 1), guard := some (81, true) },
  { dst := some 83, op := .load false 1 (.t 82), guard := some (81, true) },
  { dst := some 84, op := .call 147 [(.t 83)], guard := some (81, true) },
  { dst := some 85, op := .pick (.t 81) (.t 84) (.c (.v (.bool false))) },
  { dst := some 2, op := .move (.t 85) }])
 .ret)) (.seq (.region [{ dst := some 87, op := .bin .eql (.t 64) (.c (.v (.int .i64 2))) },
  { dst := some 86, op := .move (.t 87) }])
 (.cond (.t 86) (.seq (.dregion [{ dst := some 88, op := .faddr 10 (.t 1) },
  { dst := some 89, op := .load false 1 (.t 88) },
  { dst := some 90, op := .faddr 11 (.t 1) },
  { dst := some 91, op := .load false 1 (.t 90) },
  { dst := some 92, op := .faddr 10 (.t 3) },
  { dst := none, op := .store 1 (.t 92) (.t 89), un := [3] },
  { dst := some 93, op := .faddr 11 (.t 3) },
  { dst := none, op := .store 1 (.t 93) (.t 91) }])
 (.seq (.region [{ dst := some 94, op := .load true 12 (.t 3) },
  { dst := some 95, op := .load true 12 (.t 1) },
  { dst := some 96, op := .call 52 [(.t 94), (.t 95)] },
  { dst := some 97, op := .move (.t 96) },
  { dst := some 98, op := .faddr 10 (.t 1), guard := some (97, true) },
  { dst := some 99, op := .load false 1 (.t 98), guard := some (97, true) },
  { dst := some 100, op := .faddr 11 (.t 1), guard := some (97, true) },
  { dst := some 101, op := .load false 1 (.t 100), guard := some (97, true) },
  { dst := some 102, op := .call 148 [(.t 99), (.t 101)], guard := some (97, true) },
  { dst := some 103, op := .bin .eql (.t 102) (.c (.v (.int .i64 0))), guard := some (97, true) },
  { dst := some 104, op := .pick (.t 97) (.t 103) (.c (.v (.bool false))) },
  { dst := some 2, op := .move (.t 104) }])
 .ret)) .skip))))))
 (.seq (.region [{ dst := some 2, op := .move (.c (.v (.bool false))) }])
 .ret)))))⟩
/-- arras.arrasref6.Covers -/
def F89 : AFun := ⟨true, 21, [.t 4], (.seq (.region [{ dst := some 4, op := .move (.c (.v (.bool false))) }])
 (.seq (.seq (.region [{ dst := some 5, op := .move (.c (.v (.int .i64 0))) }])
 (.block 0 (.loop (.seq (.seq (.region [{ dst := some 6, op := .move (.t 5) },
  { dst := some 7, op := .move (.t 0) },
  { dst := some 8, op := .len (.t 7) },
  { dst := some 9, op := .bin .lss (.t 6) (.t 8) }])
 (.cond (.t 9) .skip (.exit 0)))
 (.seq (.block 1 (.seq (.dregion [{ dst := some 12, op := .move (.t 1) },
  { dst := some 13, op := .move (.t 5) },
  { dst := some 14, op := .iaddr 1 (.t 12) (.t 13) },
  { dst := some 15, op := .load false 1 (.t 14) },
  { dst := some 16, op := .move (.t 0) },
  { dst := some 17, op := .move (.t 5) },
  { dst := some 18, op := .iaddr 1 (.t 16) (.t 17) },
  { dst := some 19, op := .load false 1 (.t 18) },
  { dst := some 20, op := .bin .gtr (.t 15) (.t 19) }])
 (.cond (.t 20) (.seq (.region [{ dst := some 4, op := .move (.c (.v (.bool false))) }])
 .ret) .skip)))
 (.region [{ dst := some 10, op := .move (.t 5) },
  { dst := some 11, op := .bin .add (.t 10) (.c (.v (.int .i64 1))) },
  { dst := some 5, op := .move (.t 11) }]))))))
 (.seq (.region [{ dst := some 4, op := .move (.c (.v (.bool true))) }])
 .ret)))⟩
/-- arras.arrasref16.Does -/
def F90 : AFun := ⟨true, 101, [.cell 4 true 3, .t 5], (.seq (.region [{ dst := some 2, op := .box 30 3 (.t 0) },
  { dst := some 3, op := .box 75 12 (.t 1) },
  { dst := some 4, op := .alloc 30 [.v (.slice none 0 0), .v (.slice none 0 0), .v (.slice none 0 0)] },
  { dst := some 5, op := .move (.c (.v (.bool false))) }])
 (.seq (.region [{ dst := some 14, op := .load true 3 (.t 2) },
  { dst := some 15, op := .call 149 [(.t 14)] },
  { dst := some 6, op := .alloc 30 [.v (.slice none 0 0), .v (.slice none 0 0), .v (.slice none 0 0)] },
  { dst := none, op := .store 3 (.t 6) (.t 15) }])
 (.seq (.seq (.region [{ dst := some 16, op := .faddr 4 (.t 3) },
  { dst := some 17, op := .load false 1 (.t 16) },
  { dst := some 18, op := .bin .eql (.t 17) (.c (.v (.int .i64 1))) }])
 (.cond (.t 18) (.seq (.region [{ dst := some 20, op := .faddr 0 (.t 2) },
  { dst := some 21, op := .load true 2 (.t 20) },
  { dst := some 22, op := .load true 12 (.t 3) },
  { dst := some 23, op := .call 150 [(.t 21), (.t 22)] },
  { dst := some 19, op := .move (.t 23) },
  { dst := some 24, op := .ext (.t 19) 0 },
  { dst := some 25, op := .ext (.t 19) 1 },
  { dst := some 7, op := .alloc 27 [.v (.slice none 0 0), .v (.slice none 0 0)] },
  { dst := none, op := .store 2 (.t 7) (.t 24) },
  { dst := some 8, op := .move (.t 25) }])
 (.seq (.region [{ dst := some 26, op := .load true 2 (.t 7) },
  { dst := some 27, op := .call 151 [(.t 26)] },
  { dst := some 28, op := .faddr 0 (.t 6) },
  { dst := none, op := .store 2 (.t 28) (.t 27) }])
 (.seq (.region [{ dst := some 29, op := .load true 3 (.t 6) },
  { dst := some 30, op := .move (.t 8) },
  { dst := none, op := .store 3 (.t 4) (.t 29) },
  { dst := some 5, op := .move (.t 30) }])
 .ret))) .skip))
 (.seq (.region [{ dst := some 9, op := .move (.c (.v (.bool false))) }])
 (.seq (.region [{ dst := some 10, op := .move (.c (.v (.slice none 0 0))) }])
 (.seq (.seq (.region [{ dst := some 11, op := .move (.c (.v (.int .i64 0))) }])
 (.block 0 (.loop (.seq (.seq (.region [{ dst := some 31, op := .move (.t 11) },
  { dst := some 32, op := .faddr 2 (.t 6) },
  { dst := some 33, op := .load false 1 (.t 32) },
  { dst := some 34, op := .len (.t 33) },
  { dst := some 35, op := .bin .lss (.t 31) (.t 34) }])
 (.cond (.t 35) .skip (.exit 0)))
 (.seq (.block 1 (.seq (.region [{ dst := some 38, op := .faddr 2 (.t 6) },
  { dst := some 39, op := .load false 1 (.t 38) },
  { dst := some 40, op := .move (.t 11) },
  { dst := some 41, op := .iaddr 3 (.t 39) (.t 40) },
  { dst := some 42, op := .load true 3 (.t 41) },
  { dst := some 12, op := .alloc 162 [.v (.int .i64 0), .v (.int .i64 0), .v (.slice none 0 0)] },
  { dst := none, op := .store 3 (.t 12) (.t 42) }])
 (.seq (.region [{ dst := some 43, op := .faddr 0 (.t 12) },
  { dst := some 44, op := .load true 2 (.t 43) },
  { dst := some 45, op := .faddr 5 (.t 3) },
  { dst := some 46, op := .load true 2 (.t 45) },
  { dst := some 47, op := .call 111 [(.t 44), (.t 46)] },
  { dst := some 13, op := .move (.t 47) }])
 (.seq (.seq (.region [{ dst := some 48, op := .move (.t 9) },
  { dst := some 49, op := .un .not (.t 48) },
  { dst := some 50, op := .move (.t 49) },
  { dst := some 51, op := .move (.t 13), guard := some (50, true) },
  { dst := some 52, op := .bin .gtr (.t 51) (.c (.v (.int .i64 0))), guard := some (50, true) },
  { dst := some 53, op := .pick (.t 50) (.t 52) (.c (.v (.bool false))) }])
 (.cond (.t 53) (.seq (.dregion [{ dst := some 54, op := .move (.t 10) },
  { dst := some 55, op := .faddr 5 (.t 3) },
  { dst := some 56, op := .load true 2 (.t 55) },
  { dst := some 57, op := .faddr 10 (.t 3) },
  { dst := some 58, op := .load false 1 (.t 57) },
  { dst := some 59, op := .faddr 11 (.t 3) },
  { dst := some 60, op := .load false 1 (.t 59) },
  { dst := some 61, op := .faddr 0 (.t 3) },
  { dst := some 62, op := .load true 2 (.t 61) },
  { dst := some 63, op := .call 152 [(.c (.v (.slice none 0 0))), (.t 58), (.t 60), (.t 62)], un := [2] },
  { dst := some 64, op := .build [.v (.int .i64 0), .v (.int .i64 0), .v (.slice none 0 0)] [(0, 2, (.t 56)), (2, 1, (.t 63))] },
  { dst := some 65, op := .buildSlice 162 3 1 [.v (.int .i64 0), .v (.int .i64 0), .v (.slice none 0 0)] [(0, 3, (.t 64))] },
  { dst := some 66, op := .append 162 3 40 (.t 54) (.t 65) },
  { dst := some 10, op := .move (.t 66) }])
 (.region [{ dst := some 9, op := .move (.c (.v (.bool true))) }])) .skip))
 (.seq (.seq (.region [{ dst := some 67, op := .move (.t 13) },
  { dst := some 68, op := .bin .eql (.t 67) (.c (.v (.int .i64 0))) }])
 (.cond (.t 68) (.seq (.region [{ dst := some 69, op := .faddr 2 (.t 12) },
  { dst := some 70, op := .load false 1 (.t 69) },
  { dst := some 71, op := .faddr 10 (.t 3) },
  { dst := some 72, op := .load false 1 (.t 71) },
  { dst := some 73, op := .faddr 11 (.t 3) },
  { dst := some 74, op := .load false 1 (.t 73) },
  { dst := some 75, op := .faddr 0 (.t 3) },
  { dst := some 76, op := .load true 2 (.t 75) },
  { dst := some 77, op := .call 152 [(.t 70), (.t 72), (.t 74), (.t 76)] },
  { dst := some 78, op := .faddr 2 (.t 12) },
  { dst := none, op := .store 1 (.t 78) (.t 77) }])
 (.region [{ dst := some 9, op := .move (.c (.v (.bool true))) }])) .skip))
 (.region [{ dst := some 79, op := .move (.t 10) },
  { dst := some 80, op := .load true 3 (.t 12) },
  { dst := some 81, op := .buildSlice 162 3 1 [.v (.int .i64 0), .v (.int .i64 0), .v (.slice none 0 0)] [(0, 3, (.t 80))] },
  { dst := some 82, op := .append 162 3 40 (.t 79) (.t 81) },
  { dst := some 10, op := .move (.t 82) }]))))))
 (.region [{ dst := some 36, op := .move (.t 11) },
  { dst := some 37, op := .bin .add (.t 36) (.c (.v (.int .i64 1))) },
  { dst := some 11, op := .move (.t 37) }]))))))
 (.seq (.seq (.region [{ dst := some 83, op := .move (.t 9) },
  { dst := some 84, op := .un .not (.t 83) }])
 (.cond (.t 84) (.dregion [{ dst := some 85, op := .move (.t 10) },
  { dst := some 86, op := .faddr 5 (.t 3) },
  { dst := some 87, op := .load true 2 (.t 86) },
  { dst := some 88, op := .faddr 10 (.t 3) },
  { dst := some 89, op := .load false 1 (.t 88) },
  { dst := some 90, op := .faddr 11 (.t 3) },
  { dst := some 91, op := .load false 1 (.t 90) },
  { dst := some 92, op := .faddr 0 (.t 3) },
  { dst := some 93, op := .load true 2 (.t 92) },
  { dst := some 94, op := .call 152 [(.c (.v (.slice none 0 0))), (.t 89), (.t 91), (.t 93)], un := [2] },
  { dst := some 95, op := .build [.v (.int .i64 0), .v (.int .i64 0), .v (.slice none 0 0)] [(0, 2, (.t 87)), (2, 1, (.t 94))] },
  { dst := some 96, op := .buildSlice 162 3 1 [.v (.int .i64 0), .v (.int .i64 0), .v (.slice none 0 0)] [(0, 3, (.t 95))] },
  { dst := some 97, op := .append 162 3 40 (.t 85) (.t 96) },
  { dst := some 10, op := .move (.t 97) }]) .skip))
 (.seq (.region [{ dst := some 98, op := .move (.t 10) },
  { dst := some 99, op := .faddr 2 (.t 6) },
  { dst := none, op := .store 1 (.t 99) (.t 98) }])
 (.seq (.region [{ dst := some 100, op := .load true 3 (.t 6) },
  { dst := none, op := .store 3 (.t 4) (.t 100) },
  { dst := some 5, op := .move (.c (.v (.bool true))) }])
 .ret)))))))))⟩
/-- arras.frame.Parse -/
def F96 : AFun := ⟨true, 61, [.cell 2 true 5, .t 3], (.seq (.region [{ dst := some 2, op := .alloc 67 [.v (.int .i64 0), .v (.int .i64 0), .v (.int .i64 0), .v (.slice none 0 0), .v (.slice none 0 0)] },
  { dst := some 3, op := .move (.c (.v (.int .i64 0))) }])
 (.seq (.seq (.region [{ dst := some 7, op := .move (.t 0) },
  { dst := some 8, op := .len (.t 7) },
  { dst := some 9, op := .bin .lss (.t 8) (.c (.v (.int .i64 4))) }])
 (.cond (.t 9) (.seq (.region [{ dst := some 10, op := .build [.v (.int .i64 0), .v (.int .i64 0), .v (.int .i64 0), .v (.slice none 0 0), .v (.slice none 0 0)] [] },
  { dst := none, op := .store 5 (.t 2) (.t 10) },
  { dst := some 3, op := .move (.c (.v (.int .i64 7))) }])
 .ret) .skip))
 (.seq (.region [{ dst := some 11, op := .move (.t 0) },
  { dst := some 12, op := .slice 1 (.t 11) (some (.c (.v (.int .i64 4)))) none none },
  { dst := some 13, op := .call 153 [(.c (.v (.int .u32 0))), (.t 12)] },
  { dst := some 4, op := .move (.t 13) }])
 (.seq (.seq (.dregion [{ dst := some 14, op := .move (.t 0) },
  { dst := some 15, op := .iaddr 1 (.t 14) (.c (.v (.int .i64 0))) },
  { dst := some 16, op := .load false 1 (.t 15) },
  { dst := some 17, op := .conv .u32 (.t 16) },
  { dst := some 18, op := .bin .shl (.t 17) (.c (.v (.int .u64 24))) },
  { dst := some 19, op := .move (.t 0) },
  { dst := some 20, op := .iaddr 1 (.t 19) (.c (.v (.int .i64 1))) },
  { dst := some 21, op := .load false 1 (.t 20) },
  { dst := some 22, op := .conv .u32 (.t 21) },
  { dst := some 23, op := .bin .shl (.t 22) (.c (.v (.int .u64 16))) },
  { dst := some 24, op := .bin .or (.t 18) (.t 23) },
  { dst := some 25, op := .move (.t 0) },
  { dst := some 26, op := .iaddr 1 (.t 25) (.c (.v (.int .i64 2))) },
  { dst := some 27, op := .load false 1 (.t 26) },
  { dst := some 28, op := .conv .u32 (.t 27) },
  { dst := some 29, op := .bin .shl (.t 28) (.c (.v (.int .u64 8))) },
  { dst := some 30, op := .bin .or (.t 24) (.t 29) },
  { dst := some 31, op := .move (.t 0) },
  { dst := some 32, op := .iaddr 1 (.t 31) (.c (.v (.int .i64 3))) },
  { dst := some 33, op := .load false 1 (.t 32) },
  { dst := some 34, op := .conv .u32 (.t 33) },
  { dst := some 35, op := .bin .or (.t 30) (.t 34) },
  { dst := some 36, op := .move (.t 4) },
  { dst := some 37, op := .bin .neq (.t 35) (.t 36) }])
 (.cond (.t 37) (.seq (.region [{ dst := some 38, op := .build [.v (.int .i64 0), .v (.int .i64 0), .v (.int .i64 0), .v (.slice none 0 0), .v (.slice none 0 0)] [] },
  { dst := none, op := .store 5 (.t 2) (.t 38) },
  { dst := some 3, op := .move (.c (.v (.int .i64 8))) }])
 .ret) .skip))
 (.seq (.region [{ dst := some 40, op := .move (.t 0) },
  { dst := some 41, op := .slice 1 (.t 40) (some (.c (.v (.int .i64 4)))) none none },
  { dst := some 42, op := .call 154 [(.t 41)] },
  { dst := some 39, op := .move (.t 42) },
  { dst := some 43, op := .ext (.t 39) 0 },
  { dst := some 44, op := .ext (.t 39) 1 },
  { dst := some 5, op := .alloc 67 [.v (.int .i64 0), .v (.int .i64 0), .v (.int .i64 0), .v (.slice none 0 0), .v (.slice none 0 0)] },
  { dst := none, op := .store 5 (.t 5) (.t 43) },
  { dst := some 6, op := .move (.t 44) }])
 (.seq (.seq (.region [{ dst := some 45, op := .move (.t 6) },
  { dst := some 46, op := .un .not (.t 45) },
  { dst := some 47, op := .move (.t 46) },
  { dst := some 48, op := .load true 5 (.t 5), guard := some (47, false) },
  { dst := some 49, op := .call 155 [(.t 48)], guard := some (47, false) },
  { dst := some 50, op := .un .not (.t 49), guard := some (47, false) },
  { dst := some 51, op := .pick (.t 47) (.c (.v (.bool true))) (.t 50) },
  { dst := some 52, op := .move (.t 51) },
  { dst := some 53, op := .load true 5 (.t 5), guard := some (52, false) },
  { dst := some 54, op := .call 100 [(.t 53)], guard := some (52, false) },
  { dst := some 55, op := .move (.t 0), guard := some (52, false) },
  { dst := some 56, op := .call 156 [(.t 54), (.t 55)], guard := some (52, false) },
  { dst := some 57, op := .un .not (.t 56), guard := some (52, false) },
  { dst := some 58, op := .pick (.t 52) (.c (.v (.bool true))) (.t 57) }])
 (.cond (.t 58) (.seq (.region [{ dst := some 59, op := .build [.v (.int .i64 0), .v (.int .i64 0), .v (.int .i64 0), .v (.slice none 0 0), .v (.slice none 0 0)] [] },
  { dst := none, op := .store 5 (.t 2) (.t 59) },
  { dst := some 3, op := .move (.c (.v (.int .i64 1))) }])
 .ret) .skip))
 (.seq (.region [{ dst := some 60, op := .load true 5 (.t 5) },
  { dst := none, op := .store 5 (.t 2) (.t 60) },
  { dst := some 3, op := .move (.c (.v (.int .i64 0))) }])
 .ret)))))))⟩
/-- arras.replica.strange -/
def F97 : AFun := ⟨true, 36, [.t 4], (.seq (.region [{ dst := some 2, op := .box 32 11 (.t 0) },
  { dst := some 3, op := .box 67 5 (.t 1) },
  { dst := some 4, op := .move (.c (.v (.bool false))) }])
 (.seq (.region [{ dst := some 6, op := .faddr 2 (.t 2) },
  { dst := some 7, op := .load false 1 (.t 6) },
  { dst := some 8, op := .len (.t 7) },
  { dst := some 5, op := .alloc 3 [.v (.int .i64 0)] },
  { dst := none, op := .store 1 (.t 5) (.t 8) }])
 (.seq (.seq (.region [{ dst := some 9, op := .faddr 1 (.t 3) },
  { dst := some 10, op := .load false 1 (.t 9) },
  { dst := some 11, op := .faddr 0 (.t 2) },
  { dst := some 12, op := .load false 1 (.t 11) },
  { dst := some 13, op := .bin .neq (.t 10) (.t 12) },
  { dst := some 14, op := .move (.t 13) },
  { dst := some 15, op := .faddr 0 (.t 3), guard := some (14, false) },
  { dst := some 16, op := .load false 1 (.t 15), guard := some (14, false) },
  { dst := some 17, op := .load false 1 (.t 5), guard := some (14, false) },
  { dst := some 18, op := .bin .geq (.t 16) (.t 17), guard := some (14, false) },
  { dst := some 19, op := .pick (.t 14) (.c (.v (.bool true))) (.t 18) },
  { dst := some 20, op := .move (.t 19) },
  { dst := some 21, op := .faddr 2 (.t 3), guard := some (20, false) },
  { dst := some 22, op := .load false 1 (.t 21), guard := some (20, false) },
  { dst := some 23, op := .bin .eql (.t 22) (.c (.v (.int .i64 1))), guard := some (20, false) },
  { dst := some 24, op := .move (.t 23), guard := some (20, false) },
  { dst := some 25, op := .faddr 3 (.t 3), guard := some (24, true) },
  { dst := some 26, op := .load false 1 (.t 25), guard := some (24, true) },
  { dst := some 27, op := .len (.t 26), guard := some (24, true) },
  { dst := some 28, op := .load false 1 (.t 5), guard := some (24, true) },
  { dst := some 29, op := .bin .neq (.t 27) (.t 28), guard := some (24, true) },
  { dst := some 30, op := .pick (.t 24) (.t 29) (.c (.v (.bool false))), guard := some (20, false) },
  { dst := some 31, op := .pick (.t 20) (.c (.v (.bool true))) (.t 30) }])
 (.cond (.t 31) (.seq (.region [{ dst := some 4, op := .move (.c (.v (.bool true))) }])
 .ret) .skip))
 (.seq (.region [{ dst := some 32, op := .faddr 4 (.t 3) },
  { dst := some 33, op := .load false 1 (.t 32) },
  { dst := some 34, op := .mkfn 157 [(.t 5)] },
  { dst := some 35, op := .call 131 [(.t 33), (.t 34)] },
  { dst := some 4, op := .move (.t 35) }])
 .ret))))⟩
/-- arras.sync.Reply -/
def F99 : AFun := ⟨false, 34, [.cell 8 true 5, .t 9], (.seq (.region [{ dst := some 8, op := .alloc 67 [.v (.int .i64 0), .v (.int .i64 0), .v (.int .i64 0), .v (.slice none 0 0), .v (.slice none 0 0)] },
  { dst := some 9, op := .move (.c (.v (.int .i64 0))) }])
 (.seq (.seq (.region [{ dst := some 11, op := .move (.t 2) },
  { dst := some 12, op := .move (.t 3) },
  { dst := some 13, op := .call 158 [(.t 11), (.t 12)] },
  { dst := some 14, op := .un .not (.t 13) }])
 (.cond (.t 14) (.seq (.region [{ dst := some 15, op := .build [.v (.int .i64 0), .v (.int .i64 0), .v (.int .i64 0), .v (.slice none 0 0), .v (.slice none 0 0)] [] },
  { dst := none, op := .store 5 (.t 8) (.t 15) },
  { dst := some 9, op := .move (.c (.v (.int .i64 1))) }])
 .ret) .skip))
 (.seq (.region [{ dst := some 16, op := .move (.t 0) },
  { dst := some 17, op := .move (.t 1) },
  { dst := some 18, op := .move (.t 2) },
  { dst := some 19, op := .move (.t 3) },
  { dst := some 20, op := .call 159 [(.t 18), (.t 19)] },
  { dst := some 21, op := .build [.v (.int .i64 0), .v (.int .i64 0), .v (.int .i64 0), .v (.slice none 0 0), .v (.slice none 0 0)] [(0, 1, (.t 16)), (1, 1, (.t 17)), (2, 1, (.c (.v (.int .i64 2)))), (4, 1, (.t 20))] },
  { dst := some 10, op := .alloc 67 [.v (.int .i64 0), .v (.int .i64 0), .v (.int .i64 0), .v (.slice none 0 0), .v (.slice none 0 0)] },
  { dst := none, op := .store 5 (.t 10) (.t 21) }])
 (.seq (.block 0 (.seq (.region [{ dst := some 23, op := .faddr 4 (.t 10) },
  { dst := some 24, op := .load false 1 (.t 23) },
  { dst := some 25, op := .len (.t 24) },
  { dst := some 26, op := .bin .eql (.t 25) (.c (.v (.int .i64 0))) },
  { dst := some 22, op := .move (.t 26) }])
 (.cond (.t 22) (.seq (.region [{ dst := some 27, op := .build [.v (.int .i64 0), .v (.int .i64 0), .v (.int .i64 0), .v (.slice none 0 0), .v (.slice none 0 0)] [] },
  { dst := none, op := .store 5 (.t 8) (.t 27) },
  { dst := some 9, op := .move (.c (.v (.int .i64 3))) }])
 .ret) (.seq (.region [{ dst := some 29, op := .load true 5 (.t 10) },
  { dst := some 30, op := .call 155 [(.t 29)] },
  { dst := some 31, op := .un .not (.t 30) },
  { dst := some 28, op := .move (.t 31) }])
 (.cond (.t 28) (.seq (.region [{ dst := some 32, op := .build [.v (.int .i64 0), .v (.int .i64 0), .v (.int .i64 0), .v (.slice none 0 0), .v (.slice none 0 0)] [] },
  { dst := none, op := .store 5 (.t 8) (.t 32) },
  { dst := some 9, op := .move (.c (.v (.int .i64 1))) }])
 .ret) .skip)))))
 (.seq (.region [{ dst := some 33, op := .load true 5 (.t 10) },
  { dst := none, op := .store 5 (.t 8) (.t 33) },
  { dst := some 9, op := .move (.c (.v (.int .i64 0))) }])
 .ret)))))⟩
/-- arras.frame.Lay -/
def F100 : AFun := ⟨true, 70, [.t 2], (.seq (.region [{ dst := some 1, op := .box 67 5 (.t 0) },
  { dst := some 2, op := .move (.c (.v (.slice none 0 0))) }])
 (.seq (.region [{ dst := some 9, op := .mkslice 5 1 1 [.v (.int .u8 0)] (.c (.v (.int .i64 4))) (.c (.v (.int .i64 4))) },
  { dst := some 3, op := .move (.t 9) }])
 (.seq (.seq (.region [{ dst := some 10, op := .faddr 0 (.t 1) },
  { dst := some 11, op := .load false 1 (.t 10) },
  { dst := some 12, op := .faddr 1 (.t 1) },
  { dst := some 13, op := .load false 1 (.t 12) },
  { dst := some 14, op := .faddr 2 (.t 1) },
  { dst := some 15, op := .load false 1 (.t 14) },
  { dst := some 16, op := .build [.v (.int .i64 0), .v (.int .i64 0), .v (.int .i64 0)] [(0, 1, (.t 11)), (1, 1, (.t 13)), (2, 1, (.t 15))] },
  { dst := some 17, op := .move (.c (.v (.int .i64 0))) }])
 (.block 0 (.loop (.seq (.region [{ dst := some 18, op := .bin .lss (.t 17) (.c (.v (.int .i64 3))) }])
 (.seq (.cond (.t 18) .skip (.exit 0))
 (.seq (.block 1 (.seq (.region [{ dst := some 19, op := .aindex false 1 3 (.t 16) (.t 17) },
  { dst := some 5, op := .move (.t 19) }])
 (.region [{ dst := some 20, op := .move (.t 3) },
  { dst := some 21, op := .move (.t 5) },
  { dst := some 22, op := .call 160 [(.t 20), (.t 21)] },
  { dst := some 3, op := .move (.t 22) }])))
 (.region [{ dst := some 23, op := .bin .add (.t 17) (.c (.v (.int .i64 1))) },
  { dst := some 17, op := .move (.t 23) }])))))))
 (.seq (.seq (.region [{ dst := some 24, op := .faddr 2 (.t 1) },
  { dst := some 25, op := .load false 1 (.t 24) },
  { dst := some 26, op := .bin .eql (.t 25) (.c (.v (.int .i64 1))) }])
 (.cond (.t 26) (.region [{ dst := some 27, op := .move (.t 3) },
  { dst := some 28, op := .faddr 3 (.t 1) },
  { dst := some 29, op := .load false 1 (.t 28) },
  { dst := some 30, op := .call 161 [(.t 27), (.t 29)] },
  { dst := some 3, op := .move (.t 30) }]) (.region [{ dst := some 31, op := .move (.t 3) },
  { dst := some 32, op := .faddr 4 (.t 1) },
  { dst := some 33, op := .load false 1 (.t 32) },
  { dst := some 34, op := .len (.t 33) },
  { dst := some 35, op := .call 160 [(.t 31), (.t 34)] },
  { dst := some 3, op := .move (.t 35) }])))
 (.seq (.seq (.region [{ dst := some 36, op := .faddr 4 (.t 1) },
  { dst := some 37, op := .load false 1 (.t 36) },
  { dst := some 38, op := .len (.t 37) },
  { dst := some 39, op := .move (.c (.v (.int .i64 0))) }])
 (.block 2 (.loop (.seq (.region [{ dst := some 40, op := .bin .lss (.t 39) (.t 38) }])
 (.seq (.cond (.t 40) .skip (.exit 2))
 (.seq (.block 3 (.seq (.region [{ dst := some 41, op := .iaddr 12 (.t 37) (.t 39) },
  { dst := some 42, op := .load true 12 (.t 41) },
  { dst := some 7, op := .alloc 75 [.v (.int .i64 0), .v (.int .i64 0), .v (.int .i64 0), .v (.slice none 0 0), .v (.int .i64 0), .v (.int .i64 0), .v (.int .i64 0), .v (.int .i64 0), .v (.int .i64 0), .v (.string ⟨#[]⟩), .v (.int .i64 0), .v (.int .i64 0)] },
  { dst := none, op := .store 12 (.t 7) (.t 42) }])
 (.region [{ dst := some 43, op := .move (.t 3) },
  { dst := some 44, op := .load true 12 (.t 7) },
  { dst := some 45, op := .call 162 [(.t 43), (.t 44)] },
  { dst := some 3, op := .move (.t 45) }])))
 (.region [{ dst := some 46, op := .bin .add (.t 39) (.c (.v (.int .i64 1))) },
  { dst := some 39, op := .move (.t 46) }])))))))
 (.seq (.region [{ dst := some 47, op := .move (.t 3) },
  { dst := some 48, op := .slice 1 (.t 47) (some (.c (.v (.int .i64 4)))) none none },
  { dst := some 49, op := .call 153 [(.c (.v (.int .u32 0))), (.t 48)] },
  { dst := some 8, op := .move (.t 49) }])
 (.seq (.region [{ dst := some 50, op := .move (.t 3) },
  { dst := some 51, op := .move (.t 3) },
  { dst := some 52, op := .move (.t 3) },
  { dst := some 53, op := .move (.t 3) },
  { dst := some 54, op := .move (.t 8) },
  { dst := some 55, op := .bin .shr (.t 54) (.c (.v (.int .u64 24))) },
  { dst := some 56, op := .conv .u8 (.t 55) },
  { dst := some 57, op := .move (.t 8) },
  { dst := some 58, op := .bin .shr (.t 57) (.c (.v (.int .u64 16))) },
  { dst := some 59, op := .conv .u8 (.t 58) },
  { dst := some 60, op := .move (.t 8) },
  { dst := some 61, op := .bin .shr (.t 60) (.c (.v (.int .u64 8))) },
  { dst := some 62, op := .conv .u8 (.t 61) },
  { dst := some 63, op := .move (.t 8) },
  { dst := some 64, op := .conv .u8 (.t 63) },
  { dst := some 65, op := .iaddr 1 (.t 50) (.c (.v (.int .i64 0))) },
  { dst := none, op := .store 1 (.t 65) (.t 56) },
  { dst := some 66, op := .iaddr 1 (.t 51) (.c (.v (.int .i64 1))) },
  { dst := none, op := .store 1 (.t 66) (.t 59) },
  { dst := some 67, op := .iaddr 1 (.t 52) (.c (.v (.int .i64 2))) },
  { dst := none, op := .store 1 (.t 67) (.t 62) },
  { dst := some 68, op := .iaddr 1 (.t 53) (.c (.v (.int .i64 3))) },
  { dst := none, op := .store 1 (.t 68) (.t 64) }])
 (.seq (.region [{ dst := some 69, op := .move (.t 3) },
  { dst := some 2, op := .move (.t 69) }])
 .ret))))))))⟩
/-- arras.replica.takes -/
def F101 : AFun := ⟨false, 47, [.t 4], (.seq (.region [{ dst := some 3, op := .box 75 12 (.t 1) },
  { dst := some 4, op := .move (.c (.v (.int .i64 0))) }])
 (.seq (.dregion [{ dst := some 12, op := .move (.t 0) },
  { dst := some 13, op := .nilChk (.t 12) },
  { dst := some 14, op := .faddr 2 (.t 13) },
  { dst := some 15, op := .load false 1 (.t 14) },
  { dst := some 16, op := .move (.t 0) },
  { dst := some 17, op := .nilChk (.t 16) },
  { dst := some 18, op := .faddr 4 (.t 17) },
  { dst := some 19, op := .load false 1 (.t 18) },
  { dst := some 20, op := .load true 12 (.t 3) },
  { dst := some 21, op := .call 163 [(.t 15), (.t 19), (.t 20)] },
  { dst := some 11, op := .move (.t 21) },
  { dst := some 22, op := .ext (.t 11) 0 },
  { dst := some 23, op := .ext (.t 11) 1 },
  { dst := some 24, op := .ext (.t 11) 2 },
  { dst := some 25, op := .ext (.t 11) 3 },
  { dst := some 5, op := .move (.t 22) },
  { dst := some 6, op := .move (.t 23) },
  { dst := some 7, op := .move (.t 24) },
  { dst := some 8, op := .move (.t 25) }])
 (.seq (.seq (.region [{ dst := some 26, op := .move (.t 8) },
  { dst := some 27, op := .bin .neq (.t 26) (.c (.v (.int .i64 0))) }])
 (.cond (.t 27) (.seq (.region [{ dst := some 28, op := .move (.t 8) },
  { dst := some 4, op := .move (.t 28) }])
 .ret) .skip))
 (.seq (.region [{ dst := some 29, op := .move (.t 0) },
  { dst := some 30, op := .move (.t 0) },
  { dst := some 31, op := .move (.t 5) },
  { dst := some 32, op := .move (.t 6) },
  { dst := some 33, op := .nilChk (.t 29) },
  { dst := some 34, op := .faddr 2 (.t 33) },
  { dst := none, op := .store 1 (.t 34) (.t 31) },
  { dst := some 35, op := .nilChk (.t 30) },
  { dst := some 36, op := .faddr 4 (.t 35) },
  { dst := none, op := .store 1 (.t 36) (.t 32) }])
 (.seq (.seq (.region [{ dst := some 37, op := .move (.t 7) },
  { dst := some 38, op := .len (.t 37) },
  { dst := some 39, op := .move (.c (.v (.int .i64 0))) }])
 (.block 0 (.loop (.seq (.region [{ dst := some 40, op := .bin .lss (.t 39) (.t 38) }])
 (.seq (.cond (.t 40) .skip (.exit 0))
 (.seq (.block 1 (.seq (.region [{ dst := some 41, op := .iaddr 12 (.t 37) (.t 39) },
  { dst := some 42, op := .load true 12 (.t 41) },
  { dst := some 10, op := .alloc 75 [.v (.int .i64 0), .v (.int .i64 0), .v (.int .i64 0), .v (.slice none 0 0), .v (.int .i64 0), .v (.int .i64 0), .v (.int .i64 0), .v (.int .i64 0), .v (.int .i64 0), .v (.string ⟨#[]⟩), .v (.int .i64 0), .v (.int .i64 0)] },
  { dst := none, op := .store 12 (.t 10) (.t 42) }])
 (.region [{ dst := some 43, op := .move (.t 0) },
  { dst := some 44, op := .load true 12 (.t 10) },
  { dst := some 45, op := .call 87 [(.t 43), (.t 44)] }])))
 (.region [{ dst := some 46, op := .bin .add (.t 39) (.c (.v (.int .i64 1))) },
  { dst := some 39, op := .move (.t 46) }])))))))
 (.seq (.region [{ dst := some 4, op := .move (.c (.v (.int .i64 0))) }])
 .ret))))))⟩
/-- arras.arrasref5.TakeNum -/
def F102 : AFun := ⟨true, 44, [.t 2, .t 3, .t 4], (.seq (.region [{ dst := some 2, op := .move (.c (.v (.int .i64 0))) },
  { dst := some 3, op := .move (.c (.v (.int .i64 0))) },
  { dst := some 4, op := .move (.c (.v (.int .i64 0))) }])
 (.seq (.region [{ dst := some 5, op := .move (.c (.v (.int .u64 0))) }])
 (.seq (.region [{ dst := some 6, op := .move (.c (.v (.int .i64 0))) }])
 (.block 0 (.loop (.seq (.block 1 (.seq (.seq (.region [{ dst := some 10, op := .move (.t 6) },
  { dst := some 11, op := .move (.t 0) },
  { dst := some 12, op := .len (.t 11) },
  { dst := some 13, op := .bin .geq (.t 10) (.t 12) }])
 (.cond (.t 13) (.seq (.region [{ dst := some 2, op := .move (.c (.v (.int .i64 0))) },
  { dst := some 3, op := .move (.c (.v (.int .i64 0))) },
  { dst := some 4, op := .move (.c (.v (.int .i64 7))) }])
 .ret) .skip))
 (.seq (.region [{ dst := some 14, op := .move (.t 0) },
  { dst := some 15, op := .move (.t 6) },
  { dst := some 16, op := .iaddr 1 (.t 14) (.t 15) },
  { dst := some 17, op := .load false 1 (.t 16) },
  { dst := some 7, op := .move (.t 17) }])
 (.seq (.region [{ dst := some 18, op := .move (.t 5) },
  { dst := some 19, op := .move (.t 7) },
  { dst := some 20, op := .bin .and (.t 19) (.c (.v (.int .u8 127))) },
  { dst := some 21, op := .conv .u64 (.t 20) },
  { dst := some 22, op := .move (.t 6) },
  { dst := some 23, op := .bin .mul (.c (.v (.int .i64 7))) (.t 22) },
  { dst := some 24, op := .bin .shl (.t 21) (.t 23) },
  { dst := some 25, op := .bin .or (.t 18) (.t 24) },
  { dst := some 5, op := .move (.t 25) }])
 (.seq (.seq (.region [{ dst := some 26, op := .move (.t 7) },
  { dst := some 27, op := .bin .geq (.t 26) (.c (.v (.int .u8 128))) }])
 (.cond (.t 27) (.seq (.seq (.region [{ dst := some 28, op := .move (.t 6) },
  { dst := some 29, op := .bin .eql (.t 28) (.c (.v (.int .i64 8))) }])
 (.cond (.t 29) (.seq (.region [{ dst := some 2, op := .move (.c (.v (.int .i64 0))) },
  { dst := some 3, op := .move (.c (.v (.int .i64 0))) },
  { dst := some 4, op := .move (.c (.v (.int .i64 1))) }])
 .ret) .skip))
 (.exit 1)) .skip))
 (.seq (.seq (.region [{ dst := some 30, op := .move (.t 7) },
  { dst := some 31, op := .bin .eql (.t 30) (.c (.v (.int .u8 0))) },
  { dst := some 32, op := .move (.t 31) },
  { dst := some 33, op := .move (.t 6), guard := some (32, true) },
  { dst := some 34, op := .bin .gtr (.t 33) (.c (.v (.int .i64 0))), guard := some (32, true) },
  { dst := some 35, op := .pick (.t 32) (.t 34) (.c (.v (.bool false))) },
  { dst := some 36, op := .move (.t 35) },
  { dst := some 37, op := .move (.t 5), guard := some (36, false) },
  { dst := some 38, op := .bin .gtr (.t 37) (.c (.v (.int .u64 4611686018427387904))), guard := some (36, false) },
  { dst := some 39, op := .pick (.t 36) (.c (.v (.bool true))) (.t 38) }])
 (.cond (.t 39) (.seq (.region [{ dst := some 2, op := .move (.c (.v (.int .i64 0))) },
  { dst := some 3, op := .move (.c (.v (.int .i64 0))) },
  { dst := some 4, op := .move (.c (.v (.int .i64 1))) }])
 .ret) .skip))
 (.seq (.region [{ dst := some 40, op := .move (.t 5) },
  { dst := some 41, op := .conv .i64 (.t 40) },
  { dst := some 42, op := .move (.t 6) },
  { dst := some 43, op := .bin .add (.t 42) (.c (.v (.int .i64 1))) },
  { dst := some 2, op := .move (.t 41) },
  { dst := some 3, op := .move (.t 43) },
  { dst := some 4, op := .move (.c (.v (.int .i64 0))) }])
 .ret)))))))
 (.region [{ dst := some 8, op := .move (.t 6) },
  { dst := some 9, op := .bin .add (.t 8) (.c (.v (.int .i64 1))) },
  { dst := some 6, op := .move (.t 9) }])))))))⟩
/-- arras.arrasref5.TakeNums -/
def F103 : AFun := ⟨true, 49, [.t 2, .t 3, .t 4], (.seq (.region [{ dst := some 2, op := .move (.c (.v (.slice none 0 0))) },
  { dst := some 3, op := .move (.c (.v (.int .i64 0))) },
  { dst := some 4, op := .move (.c (.v (.int .i64 0))) }])
 (.seq (.region [{ dst := some 14, op := .move (.t 0) },
  { dst := some 15, op := .call 102 [(.t 14)] },
  { dst := some 13, op := .move (.t 15) },
  { dst := some 16, op := .ext (.t 13) 0 },
  { dst := some 17, op := .ext (.t 13) 1 },
  { dst := some 18, op := .ext (.t 13) 2 },
  { dst := some 5, op := .move (.t 16) },
  { dst := some 6, op := .move (.t 17) },
  { dst := some 7, op := .move (.t 18) }])
 (.seq (.seq (.region [{ dst := some 19, op := .move (.t 7) },
  { dst := some 20, op := .bin .neq (.t 19) (.c (.v (.int .i64 0))) }])
 (.cond (.t 20) (.seq (.region [{ dst := some 21, op := .move (.t 7) },
  { dst := some 2, op := .move (.c (.v (.slice none 0 0))) },
  { dst := some 3, op := .move (.c (.v (.int .i64 0))) },
  { dst := some 4, op := .move (.t 21) }])
 .ret) .skip))
 (.seq (.seq (.region [{ dst := some 22, op := .move (.t 5) },
  { dst := some 23, op := .bin .gtr (.t 22) (.c (.v (.int .i64 1024))) }])
 (.cond (.t 23) (.seq (.region [{ dst := some 2, op := .move (.c (.v (.slice none 0 0))) },
  { dst := some 3, op := .move (.c (.v (.int .i64 0))) },
  { dst := some 4, op := .move (.c (.v (.int .i64 1))) }])
 .ret) .skip))
 (.seq (.region [{ dst := some 8, op := .move (.c (.v (.slice none 0 0))) }])
 (.seq (.seq (.region [{ dst := some 9, op := .move (.c (.v (.int .i64 0))) }])
 (.block 0 (.loop (.seq (.seq (.region [{ dst := some 24, op := .move (.t 9) },
  { dst := some 25, op := .move (.t 5) },
  { dst := some 26, op := .bin .lss (.t 24) (.t 25) }])
 (.cond (.t 26) .skip (.exit 0)))
 (.seq (.block 1 (.seq (.region [{ dst := some 30, op := .move (.t 0) },
  { dst := some 31, op := .move (.t 6) },
  { dst := some 32, op := .slice 1 (.t 30) (some (.t 31)) none none },
  { dst := some 33, op := .call 102 [(.t 32)] },
  { dst := some 29, op := .move (.t 33) },
  { dst := some 34, op := .ext (.t 29) 0 },
  { dst := some 35, op := .ext (.t 29) 1 },
  { dst := some 36, op := .ext (.t 29) 2 },
  { dst := some 10, op := .move (.t 34) },
  { dst := some 11, op := .move (.t 35) },
  { dst := some 12, op := .move (.t 36) }])
 (.seq (.seq (.region [{ dst := some 37, op := .move (.t 12) },
  { dst := some 38, op := .bin .neq (.t 37) (.c (.v (.int .i64 0))) }])
 (.cond (.t 38) (.seq (.region [{ dst := some 39, op := .move (.t 12) },
  { dst := some 2, op := .move (.c (.v (.slice none 0 0))) },
  { dst := some 3, op := .move (.c (.v (.int .i64 0))) },
  { dst := some 4, op := .move (.t 39) }])
 .ret) .skip))
 (.seq (.region [{ dst := some 40, op := .move (.t 8) },
  { dst := some 41, op := .move (.t 10) },
  { dst := some 42, op := .buildSlice 3 1 1 [.v (.int .i64 0)] [(0, 1, (.t 41))] },
  { dst := some 43, op := .append 3 1 8 (.t 40) (.t 42) },
  { dst := some 8, op := .move (.t 43) }])
 (.region [{ dst := some 44, op := .move (.t 6) },
  { dst := some 45, op := .move (.t 11) },
  { dst := some 46, op := .bin .add (.t 44) (.t 45) },
  { dst := some 6, op := .move (.t 46) }])))))
 (.region [{ dst := some 27, op := .move (.t 9) },
  { dst := some 28, op := .bin .add (.t 27) (.c (.v (.int .i64 1))) },
  { dst := some 9, op := .move (.t 28) }]))))))
 (.seq (.region [{ dst := some 47, op := .move (.t 8) },
  { dst := some 48, op := .move (.t 6) },
  { dst := some 2, op := .move (.t 47) },
  { dst := some 3, op := .move (.t 48) },
  { dst := some 4, op := .move (.c (.v (.int .i64 0))) }])
 .ret)))))))⟩
/-- arras.arrasref6.Vector -/
def F104 : AFun := ⟨true, 24, [.t 2], (.seq (.region [{ dst := some 2, op := .move (.c (.v (.bool false))) }])
 (.seq (.seq (.region [{ dst := some 3, op := .move (.c (.v (.int .i64 0))) }])
 (.block 0 (.loop (.seq (.seq (.region [{ dst := some 4, op := .move (.t 3) },
  { dst := some 5, op := .move (.t 0) },
  { dst := some 6, op := .len (.t 5) },
  { dst := some 7, op := .bin .lss (.t 4) (.t 6) }])
 (.cond (.t 7) .skip (.exit 0)))
 (.seq (.block 1 (.seq (.region [{ dst := some 10, op := .move (.t 0) },
  { dst := some 11, op := .move (.t 3) },
  { dst := some 12, op := .iaddr 1 (.t 10) (.t 11) },
  { dst := some 13, op := .load false 1 (.t 12) },
  { dst := some 14, op := .call 46 [(.t 13), (.c (.v (.int .i64 1099511627776)))] },
  { dst := some 15, op := .un .not (.t 14) }])
 (.cond (.t 15) (.seq (.region [{ dst := some 2, op := .move (.c (.v (.bool false))) }])
 .ret) .skip)))
 (.region [{ dst := some 8, op := .move (.t 3) },
  { dst := some 9, op := .bin .add (.t 8) (.c (.v (.int .i64 1))) },
  { dst := some 3, op := .move (.t 9) }]))))))
 (.seq (.region [{ dst := some 16, op := .move (.t 0) },
  { dst := some 17, op := .len (.t 16) },
  { dst := some 18, op := .bin .geq (.t 17) (.c (.v (.int .i64 1))) },
  { dst := some 19, op := .move (.t 18) },
  { dst := some 20, op := .move (.t 0), guard := some (19, true) },
  { dst := some 21, op := .len (.t 20), guard := some (19, true) },
  { dst := some 22, op := .bin .leq (.t 21) (.c (.v (.int .i64 16))), guard := some (19, true) },
  { dst := some 23, op := .pick (.t 19) (.t 22) (.c (.v (.bool false))) },
  { dst := some 2, op := .move (.t 23) }])
 .ret)))⟩
/-- (*arras.arrasref10.taker).stamp -/
def F105 : AFun := ⟨false, 40, [.cell 2 true 2], (.seq (.region [{ dst := some 2, op := .alloc 41 [.v (.int .i64 0), .v (.int .i64 0)] }])
 (.seq (.seq (.region [{ dst := some 6, op := .move (.t 0) },
  { dst := some 7, op := .nilChk (.t 6) },
  { dst := some 8, op := .faddr 2 (.t 7) },
  { dst := some 9, op := .load false 1 (.t 8) },
  { dst := some 10, op := .bin .neq (.t 9) (.c (.v (.int .i64 0))) }])
 (.cond (.t 10) (.seq (.region [{ dst := some 11, op := .build [.v (.int .i64 0), .v (.int .i64 0)] [] },
  { dst := none, op := .store 2 (.t 2) (.t 11) }])
 .ret) .skip))
 (.seq (.dregion [{ dst := some 13, op := .move (.t 0) },
  { dst := some 14, op := .nilChk (.t 13) },
  { dst := some 15, op := .faddr 0 (.t 14) },
  { dst := some 16, op := .load false 1 (.t 15) },
  { dst := some 17, op := .move (.t 0) },
  { dst := some 18, op := .nilChk (.t 17) },
  { dst := some 19, op := .faddr 1 (.t 18) },
  { dst := some 20, op := .load false 1 (.t 19) },
  { dst := some 21, op := .slice 1 (.t 16) (some (.t 20)) none none },
  { dst := some 22, op := .call 164 [(.t 21)] },
  { dst := some 12, op := .move (.t 22) },
  { dst := some 23, op := .ext (.t 12) 0 },
  { dst := some 24, op := .ext (.t 12) 1 },
  { dst := some 25, op := .ext (.t 12) 2 },
  { dst := some 3, op := .alloc 41 [.v (.int .i64 0), .v (.int .i64 0)], un := [3, 7, 9] },
  { dst := none, op := .store 2 (.t 3) (.t 23) },
  { dst := some 4, op := .move (.t 24) },
  { dst := some 5, op := .move (.t 25) }])
 (.seq (.region [{ dst := some 26, op := .move (.t 0) },
  { dst := some 27, op := .move (.t 0) },
  { dst := some 28, op := .move (.t 0) },
  { dst := some 29, op := .nilChk (.t 28) },
  { dst := some 30, op := .faddr 1 (.t 29) },
  { dst := some 31, op := .load false 1 (.t 30) },
  { dst := some 32, op := .move (.t 4) },
  { dst := some 33, op := .bin .add (.t 31) (.t 32) },
  { dst := some 34, op := .move (.t 5) },
  { dst := some 35, op := .nilChk (.t 26) },
  { dst := some 36, op := .faddr 1 (.t 35) },
  { dst := none, op := .store 1 (.t 36) (.t 33) },
  { dst := some 37, op := .nilChk (.t 27) },
  { dst := some 38, op := .faddr 2 (.t 37) },
  { dst := none, op := .store 1 (.t 38) (.t 34) }])
 (.seq (.region [{ dst := some 39, op := .load true 2 (.t 3) },
  { dst := none, op := .store 2 (.t 2) (.t 39) }])
 .ret)))))⟩
/-- arras.arrasref5.TakeText -/
def F106 : AFun := ⟨true, 35, [.t 2, .t 3, .t 4], (.seq (.region [{ dst := some 2, op := .move (.c (.v (.string ⟨#[]⟩))) },
  { dst := some 3, op := .move (.c (.v (.int .i64 0))) },
  { dst := some 4, op := .move (.c (.v (.int .i64 0))) }])
 (.seq (.region [{ dst := some 9, op := .move (.t 0) },
  { dst := some 10, op := .call 102 [(.t 9)] },
  { dst := some 8, op := .move (.t 10) },
  { dst := some 11, op := .ext (.t 8) 0 },
  { dst := some 12, op := .ext (.t 8) 1 },
  { dst := some 13, op := .ext (.t 8) 2 },
  { dst := some 5, op := .move (.t 11) },
  { dst := some 6, op := .move (.t 12) },
  { dst := some 7, op := .move (.t 13) }])
 (.seq (.seq (.region [{ dst := some 14, op := .move (.t 7) },
  { dst := some 15, op := .bin .neq (.t 14) (.c (.v (.int .i64 0))) }])
 (.cond (.t 15) (.seq (.region [{ dst := some 16, op := .move (.t 7) },
  { dst := some 2, op := .move (.c (.v (.string ⟨#[]⟩))) },
  { dst := some 3, op := .move (.c (.v (.int .i64 0))) },
  { dst := some 4, op := .move (.t 16) }])
 .ret) .skip))
 (.seq (.seq (.region [{ dst := some 17, op := .move (.t 5) },
  { dst := some 18, op := .bin .gtr (.t 17) (.c (.v (.int .i64 65536))) }])
 (.cond (.t 18) (.seq (.region [{ dst := some 2, op := .move (.c (.v (.string ⟨#[]⟩))) },
  { dst := some 3, op := .move (.c (.v (.int .i64 0))) },
  { dst := some 4, op := .move (.c (.v (.int .i64 1))) }])
 .ret) .skip))
 (.seq (.seq (.region [{ dst := some 19, op := .move (.t 5) },
  { dst := some 20, op := .move (.t 0) },
  { dst := some 21, op := .len (.t 20) },
  { dst := some 22, op := .move (.t 6) },
  { dst := some 23, op := .bin .sub (.t 21) (.t 22) },
  { dst := some 24, op := .bin .gtr (.t 19) (.t 23) }])
 (.cond (.t 24) (.seq (.region [{ dst := some 2, op := .move (.c (.v (.string ⟨#[]⟩))) },
  { dst := some 3, op := .move (.c (.v (.int .i64 0))) },
  { dst := some 4, op := .move (.c (.v (.int .i64 7))) }])
 .ret) .skip))
 (.seq (.region [{ dst := some 25, op := .move (.t 0) },
  { dst := some 26, op := .move (.t 6) },
  { dst := some 27, op := .move (.t 6) },
  { dst := some 28, op := .move (.t 5) },
  { dst := some 29, op := .bin .add (.t 27) (.t 28) },
  { dst := some 30, op := .slice 1 (.t 25) (some (.t 26)) (some (.t 29)) none },
  { dst := some 31, op := .b2s (.t 30) },
  { dst := some 32, op := .move (.t 6) },
  { dst := some 33, op := .move (.t 5) },
  { dst := some 34, op := .bin .add (.t 32) (.t 33) },
  { dst := some 2, op := .move (.t 31) },
  { dst := some 3, op := .move (.t 34) },
  { dst := some 4, op := .move (.c (.v (.int .i64 0))) }])
 .ret))))))⟩
/-- arras.arrasref0.EqNodes -/
def F107 : AFun := ⟨true, 26, [.t 4], (.seq (.region [{ dst := some 4, op := .move (.c (.v (.bool false))) }])
 (.seq (.seq (.region [{ dst := some 6, op := .move (.t 0) },
  { dst := some 7, op := .len (.t 6) },
  { dst := some 8, op := .move (.t 1) },
  { dst := some 9, op := .len (.t 8) },
  { dst := some 10, op := .bin .neq (.t 7) (.t 9) }])
 (.cond (.t 10) (.seq (.region [{ dst := some 4, op := .move (.c (.v (.bool false))) }])
 .ret) .skip))
 (.seq (.seq (.region [{ dst := some 5, op := .move (.c (.v (.int .i64 0))) }])
 (.block 0 (.loop (.seq (.seq (.region [{ dst := some 11, op := .move (.t 5) },
  { dst := some 12, op := .move (.t 0) },
  { dst := some 13, op := .len (.t 12) },
  { dst := some 14, op := .bin .lss (.t 11) (.t 13) }])
 (.cond (.t 14) .skip (.exit 0)))
 (.seq (.block 1 (.seq (.dregion [{ dst := some 17, op := .move (.t 0) },
  { dst := some 18, op := .move (.t 5) },
  { dst := some 19, op := .iaddr 5 (.t 17) (.t 18) },
  { dst := some 20, op := .load true 5 (.t 19) },
  { dst := some 21, op := .move (.t 1) },
  { dst := some 22, op := .move (.t 5) },
  { dst := some 23, op := .iaddr 5 (.t 21) (.t 22) },
  { dst := some 24, op := .load true 5 (.t 23) },
  { dst := some 25, op := .eqAgg true [1, 1, 1, 1, 2] (.t 20) (.t 24) }])
 (.cond (.t 25) (.seq (.region [{ dst := some 4, op := .move (.c (.v (.bool false))) }])
 .ret) .skip)))
 (.region [{ dst := some 15, op := .move (.t 5) },
  { dst := some 16, op := .bin .add (.t 15) (.c (.v (.int .i64 1))) },
  { dst := some 5, op := .move (.t 16) }]))))))
 (.seq (.region [{ dst := some 4, op := .move (.c (.v (.bool true))) }])
 .ret))))⟩
/-- arras.arrasref0.EqMoves -/
def F108 : AFun := ⟨true, 27, [.t 4], (.seq (.region [{ dst := some 4, op := .move (.c (.v (.bool false))) }])
 (.seq (.seq (.region [{ dst := some 6, op := .move (.t 0) },
  { dst := some 7, op := .len (.t 6) },
  { dst := some 8, op := .move (.t 1) },
  { dst := some 9, op := .len (.t 8) },
  { dst := some 10, op := .bin .neq (.t 7) (.t 9) }])
 (.cond (.t 10) (.seq (.region [{ dst := some 4, op := .move (.c (.v (.bool false))) }])
 .ret) .skip))
 (.seq (.seq (.region [{ dst := some 5, op := .move (.c (.v (.int .i64 0))) }])
 (.block 0 (.loop (.seq (.seq (.region [{ dst := some 11, op := .move (.t 5) },
  { dst := some 12, op := .move (.t 0) },
  { dst := some 13, op := .len (.t 12) },
  { dst := some 14, op := .bin .lss (.t 11) (.t 13) }])
 (.cond (.t 14) .skip (.exit 0)))
 (.seq (.block 1 (.seq (.dregion [{ dst := some 17, op := .move (.t 0) },
  { dst := some 18, op := .move (.t 5) },
  { dst := some 19, op := .iaddr 17 (.t 17) (.t 18) },
  { dst := some 20, op := .load true 17 (.t 19) },
  { dst := some 21, op := .move (.t 1) },
  { dst := some 22, op := .move (.t 5) },
  { dst := some 23, op := .iaddr 17 (.t 21) (.t 22) },
  { dst := some 24, op := .load true 17 (.t 23) },
  { dst := some 25, op := .call 165 [(.t 20), (.t 24)] },
  { dst := some 26, op := .un .not (.t 25) }])
 (.cond (.t 26) (.seq (.region [{ dst := some 4, op := .move (.c (.v (.bool false))) }])
 .ret) .skip)))
 (.region [{ dst := some 15, op := .move (.t 5) },
  { dst := some 16, op := .bin .add (.t 15) (.c (.v (.int .i64 1))) },
  { dst := some 5, op := .move (.t 16) }]))))))
 (.seq (.region [{ dst := some 4, op := .move (.c (.v (.bool true))) }])
 .ret))))⟩
/-- arras.arrasref6.Cmp -/
def F111 : AFun := ⟨true, 27, [.t 4], (.seq (.region [{ dst := some 2, op := .box 41 2 (.t 0) },
  { dst := some 3, op := .box 41 2 (.t 1) },
  { dst := some 4, op := .move (.c (.v (.int .i64 0))) }])
 (.seq (.seq (.region [{ dst := some 5, op := .faddr 0 (.t 2) },
  { dst := some 6, op := .load false 1 (.t 5) },
  { dst := some 7, op := .faddr 0 (.t 3) },
  { dst := some 8, op := .load false 1 (.t 7) },
  { dst := some 9, op := .bin .lss (.t 6) (.t 8) },
  { dst := some 10, op := .move (.t 9) },
  { dst := some 11, op := .faddr 0 (.t 2), guard := some (10, false) },
  { dst := some 12, op := .load false 1 (.t 11), guard := some (10, false) },
  { dst := some 13, op := .faddr 0 (.t 3), guard := some (10, false) },
  { dst := some 14, op := .load false 1 (.t 13), guard := some (10, false) },
  { dst := some 15, op := .bin .eql (.t 12) (.t 14), guard := some (10, false) },
  { dst := some 16, op := .move (.t 15), guard := some (10, false) },
  { dst := some 17, op := .faddr 1 (.t 2), guard := some (16, true) },
  { dst := some 18, op := .load false 1 (.t 17), guard := some (16, true) },
  { dst := some 19, op := .faddr 1 (.t 3), guard := some (16, true) },
  { dst := some 20, op := .load false 1 (.t 19), guard := some (16, true) },
  { dst := some 21, op := .bin .lss (.t 18) (.t 20), guard := some (16, true) },
  { dst := some 22, op := .pick (.t 16) (.t 21) (.c (.v (.bool false))), guard := some (10, false) },
  { dst := some 23, op := .pick (.t 10) (.c (.v (.bool true))) (.t 22) }])
 (.cond (.t 23) (.seq (.region [{ dst := some 4, op := .move (.c (.v (.int .i64 (-1)))) }])
 .ret) .skip))
 (.seq (.seq (.region [{ dst := some 24, op := .load true 2 (.t 2) },
  { dst := some 25, op := .load true 2 (.t 3) },
  { dst := some 26, op := .eqAgg true [1, 1] (.t 24) (.t 25) }])
 (.cond (.t 26) (.seq (.region [{ dst := some 4, op := .move (.c (.v (.int .i64 1))) }])
 .ret) .skip))
 (.seq (.region [{ dst := some 4, op := .move (.c (.v (.int .i64 0))) }])
 .ret))))⟩
/-- arras.op.OwnAll -/
def F117 : AFun := ⟨false, 21, [.t 2], (.seq (.region [{ dst := some 2, op := .move (.c (.v (.slice none 0 0))) }])
 (.seq (.region [{ dst := some 4, op := .move (.t 0) },
  { dst := some 5, op := .call 170 [(.t 4)] },
  { dst := some 0, op := .move (.t 5) }])
 (.seq (.seq (.region [{ dst := some 6, op := .move (.t 0) },
  { dst := some 7, op := .len (.t 6) },
  { dst := some 8, op := .move (.c (.v (.int .i64 0))) }])
 (.block 0 (.loop (.seq (.region [{ dst := some 9, op := .bin .lss (.t 8) (.t 7) }])
 (.seq (.cond (.t 9) .skip (.exit 0))
 (.seq (.block 1 (.seq (.region [{ dst := some 10, op := .move (.t 8) },
  { dst := some 3, op := .move (.t 10) }])
 (.region [{ dst := some 11, op := .move (.t 0) },
  { dst := some 12, op := .move (.t 3) },
  { dst := some 13, op := .move (.t 0) },
  { dst := some 14, op := .move (.t 3) },
  { dst := some 15, op := .iaddr 12 (.t 13) (.t 14) },
  { dst := some 16, op := .load true 12 (.t 15) },
  { dst := some 17, op := .call 143 [(.t 16)] },
  { dst := some 18, op := .iaddr 12 (.t 11) (.t 12) },
  { dst := none, op := .store 12 (.t 18) (.t 17) }])))
 (.region [{ dst := some 19, op := .bin .add (.t 8) (.c (.v (.int .i64 1))) },
  { dst := some 8, op := .move (.t 19) }])))))))
 (.seq (.region [{ dst := some 20, op := .move (.t 0) },
  { dst := some 2, op := .move (.t 20) }])
 .ret))))⟩
/-- slices.Clone[[]int,int] -/
def F121 : AFun := ⟨false, 8, [.t 2], (.seq (.region [{ dst := some 2, op := .move (.c (.v (.slice none 0 0))) }])
 (.seq (.seq (.region [{ dst := some 3, op := .move (.t 0) },
  { dst := some 4, op := .eqNilS false (.t 3) }])
 (.cond (.t 4) (.seq (.region [{ dst := some 2, op := .move (.c (.v (.slice none 0 0))) }])
 .ret) .skip))
 (.seq (.region [{ dst := some 5, op := .buildSlice 3 1 0 [.v (.int .i64 0)] [] },
  { dst := some 6, op := .move (.t 0) },
  { dst := some 7, op := .append 3 1 8 (.t 5) (.t 6) },
  { dst := some 2, op := .move (.t 7) }])
 .ret)))⟩
/-- arras.shape.Own -/
def F122 : AFun := ⟨false, 32, [.cell 2 true 3], (.seq (.region [{ dst := some 1, op := .box 30 3 (.t 0) },
  { dst := some 2, op := .alloc 30 [.v (.slice none 0 0), .v (.slice none 0 0), .v (.slice none 0 0)] }])
 (.seq (.dregion [{ dst := some 4, op := .faddr 0 (.t 1) },
  { dst := some 5, op := .load true 2 (.t 4) },
  { dst := some 6, op := .call 173 [(.t 5)] },
  { dst := some 7, op := .faddr 2 (.t 1) },
  { dst := some 8, op := .load false 1 (.t 7), un := [2] },
  { dst := some 9, op := .call 174 [(.t 8)] },
  { dst := some 10, op := .faddr 0 (.t 1) },
  { dst := none, op := .store 2 (.t 10) (.t 6) },
  { dst := some 11, op := .faddr 2 (.t 1) },
  { dst := none, op := .store 1 (.t 11) (.t 9) }])
 (.seq (.seq (.region [{ dst := some 12, op := .faddr 2 (.t 1) },
  { dst := some 13, op := .load false 1 (.t 12) },
  { dst := some 14, op := .len (.t 13) },
  { dst := some 15, op := .move (.c (.v (.int .i64 0))) }])
 (.block 0 (.loop (.seq (.region [{ dst := some 16, op := .bin .lss (.t 15) (.t 14) }])
 (.seq (.cond (.t 16) .skip (.exit 0))
 (.seq (.block 1 (.seq (.region [{ dst := some 17, op := .move (.t 15) },
  { dst := some 3, op := .move (.t 17) }])
 (.dregion [{ dst := some 18, op := .faddr 2 (.t 1) },
  { dst := some 19, op := .load false 1 (.t 18) },
  { dst := some 20, op := .move (.t 3) },
  { dst := some 21, op := .faddr 2 (.t 1) },
  { dst := some 22, op := .load false 1 (.t 21) },
  { dst := some 23, op := .move (.t 3) },
  { dst := some 24, op := .iaddr 3 (.t 22) (.t 23) },
  { dst := some 25, op := .faddr 2 (.t 24) },
  { dst := some 26, op := .load false 1 (.t 25) },
  { dst := some 27, op := .call 175 [(.t 26)], un := [1] },
  { dst := some 28, op := .iaddr 3 (.t 19) (.t 20) },
  { dst := some 29, op := .faddr 2 (.t 28) },
  { dst := none, op := .store 1 (.t 29) (.t 27) }])))
 (.region [{ dst := some 30, op := .bin .add (.t 15) (.c (.v (.int .i64 1))) },
  { dst := some 15, op := .move (.t 30) }])))))))
 (.seq (.region [{ dst := some 31, op := .load true 3 (.t 1) },
  { dst := none, op := .store 3 (.t 2) (.t 31) }])
 .ret))))⟩
/-- slices.Equal[[]arras.api.Node,arras.api.Node] -/
def F124 : AFun := ⟨true, 26, [.t 4], (.seq (.region [{ dst := some 4, op := .move (.c (.v (.bool false))) }])
 (.seq (.seq (.region [{ dst := some 6, op := .move (.t 0) },
  { dst := some 7, op := .len (.t 6) },
  { dst := some 8, op := .move (.t 1) },
  { dst := some 9, op := .len (.t 8) },
  { dst := some 10, op := .bin .neq (.t 7) (.t 9) }])
 (.cond (.t 10) (.seq (.region [{ dst := some 4, op := .move (.c (.v (.bool false))) }])
 .ret) .skip))
 (.seq (.seq (.region [{ dst := some 11, op := .move (.t 0) },
  { dst := some 12, op := .len (.t 11) },
  { dst := some 13, op := .move (.c (.v (.int .i64 0))) }])
 (.block 0 (.loop (.seq (.region [{ dst := some 14, op := .bin .lss (.t 13) (.t 12) }])
 (.seq (.cond (.t 14) .skip (.exit 0))
 (.seq (.block 1 (.seq (.region [{ dst := some 15, op := .move (.t 13) },
  { dst := some 5, op := .move (.t 15) }])
 (.seq (.dregion [{ dst := some 16, op := .move (.t 0) },
  { dst := some 17, op := .move (.t 5) },
  { dst := some 18, op := .iaddr 5 (.t 16) (.t 17) },
  { dst := some 19, op := .load true 5 (.t 18) },
  { dst := some 20, op := .move (.t 1) },
  { dst := some 21, op := .move (.t 5) },
  { dst := some 22, op := .iaddr 5 (.t 20) (.t 21) },
  { dst := some 23, op := .load true 5 (.t 22) },
  { dst := some 24, op := .eqAgg true [1, 1, 1, 1, 2] (.t 19) (.t 23) }])
 (.cond (.t 24) (.seq (.region [{ dst := some 4, op := .move (.c (.v (.bool false))) }])
 .ret) .skip))))
 (.region [{ dst := some 25, op := .bin .add (.t 13) (.c (.v (.int .i64 1))) },
  { dst := some 13, op := .move (.t 25) }])))))))
 (.seq (.region [{ dst := some 4, op := .move (.c (.v (.bool true))) }])
 .ret))))⟩
/-- slices.EqualFunc[[]arras.api.Entry,[]arras.api.Entry,arras.api.Entry,arras.api.Entry] -/
def F125 : AFun := ⟨true, 32, [.t 6], (.seq (.region [{ dst := some 6, op := .move (.c (.v (.bool false))) }])
 (.seq (.seq (.region [{ dst := some 10, op := .move (.t 0) },
  { dst := some 11, op := .len (.t 10) },
  { dst := some 12, op := .move (.t 1) },
  { dst := some 13, op := .len (.t 12) },
  { dst := some 14, op := .bin .neq (.t 11) (.t 13) }])
 (.cond (.t 14) (.seq (.region [{ dst := some 6, op := .move (.c (.v (.bool false))) }])
 .ret) .skip))
 (.seq (.seq (.region [{ dst := some 15, op := .move (.t 0) },
  { dst := some 16, op := .len (.t 15) },
  { dst := some 17, op := .move (.c (.v (.int .i64 0))) }])
 (.block 0 (.loop (.seq (.region [{ dst := some 18, op := .bin .lss (.t 17) (.t 16) }])
 (.seq (.cond (.t 18) .skip (.exit 0))
 (.seq (.block 1 (.seq (.region [{ dst := some 19, op := .move (.t 17) },
  { dst := some 20, op := .iaddr 17 (.t 15) (.t 17) },
  { dst := some 21, op := .load true 17 (.t 20) },
  { dst := some 8, op := .alloc 200 [.v (.int .i64 0), .v (.int .i64 0), .v (.int .i64 0), .v (.slice none 0 0), .v (.int .i64 0), .v (.int .i64 0), .v (.int .i64 0), .v (.int .i64 0), .v (.int .i64 0), .v (.string ⟨#[]⟩), .v (.int .i64 0), .v (.int .i64 0), .v (.bool false), .v (.int .i64 0), .v (.int .i64 0), .v (.string ⟨#[]⟩), .v (.bool false)] },
  { dst := some 7, op := .move (.t 19) },
  { dst := none, op := .store 17 (.t 8) (.t 21) }])
 (.seq (.region [{ dst := some 22, op := .move (.t 1) },
  { dst := some 23, op := .move (.t 7) },
  { dst := some 24, op := .iaddr 17 (.t 22) (.t 23) },
  { dst := some 25, op := .load true 17 (.t 24) },
  { dst := some 9, op := .alloc 200 [.v (.int .i64 0), .v (.int .i64 0), .v (.int .i64 0), .v (.slice none 0 0), .v (.int .i64 0), .v (.int .i64 0), .v (.int .i64 0), .v (.int .i64 0), .v (.int .i64 0), .v (.string ⟨#[]⟩), .v (.int .i64 0), .v (.int .i64 0), .v (.bool false), .v (.int .i64 0), .v (.int .i64 0), .v (.string ⟨#[]⟩), .v (.bool false)] },
  { dst := none, op := .store 17 (.t 9) (.t 25) }])
 (.seq (.region [{ dst := some 26, op := .move (.t 2) },
  { dst := some 27, op := .load true 17 (.t 8) },
  { dst := some 28, op := .load true 17 (.t 9) },
  { dst := some 29, op := .callv (.t 26) [(.t 27), (.t 28)] },
  { dst := some 30, op := .un .not (.t 29) }])
 (.cond (.t 30) (.seq (.region [{ dst := some 6, op := .move (.c (.v (.bool false))) }])
 .ret) .skip)))))
 (.region [{ dst := some 31, op := .bin .add (.t 17) (.c (.v (.int .i64 1))) },
  { dst := some 17, op := .move (.t 31) }])))))))
 (.seq (.region [{ dst := some 6, op := .move (.c (.v (.bool true))) }])
 .ret))))⟩
/-- arras.replica.sameEntry -/
def F126 : AFun := ⟨true, 38, [.t 4], (.seq (.region [{ dst := some 2, op := .box 200 17 (.t 0) },
  { dst := some 3, op := .box 200 17 (.t 1) },
  { dst := some 4, op := .move (.c (.v (.bool false))) }])
 (.seq (.region [{ dst := some 5, op := .faddr 0 (.t 2) },
  { dst := some 6, op := .load true 12 (.t 5) },
  { dst := some 7, op := .faddr 0 (.t 3) },
  { dst := some 8, op := .load true 12 (.t 7) },
  { dst := some 9, op := .call 176 [(.t 6), (.t 8)] },
  { dst := some 10, op := .move (.t 9) },
  { dst := some 11, op := .faddr 12 (.t 2), guard := some (10, true) },
  { dst := some 12, op := .load false 1 (.t 11), guard := some (10, true) },
  { dst := some 13, op := .faddr 12 (.t 3), guard := some (10, true) },
  { dst := some 14, op := .load false 1 (.t 13), guard := some (10, true) },
  { dst := some 15, op := .beq false (.t 12) (.t 14), guard := some (10, true) },
  { dst := some 16, op := .pick (.t 10) (.t 15) (.c (.v (.bool false))) },
  { dst := some 17, op := .move (.t 16) },
  { dst := some 18, op := .faddr 13 (.t 2), guard := some (17, true) },
  { dst := some 19, op := .load true 2 (.t 18), guard := some (17, true) },
  { dst := some 20, op := .faddr 13 (.t 3), guard := some (17, true) },
  { dst := some 21, op := .load true 2 (.t 20), guard := some (17, true) },
  { dst := some 22, op := .eqAgg false [1, 1] (.t 19) (.t 21), guard := some (17, true) },
  { dst := some 23, op := .pick (.t 17) (.t 22) (.c (.v (.bool false))) },
  { dst := some 24, op := .move (.t 23) },
  { dst := some 25, op := .faddr 15 (.t 2), guard := some (24, true) },
  { dst := some 26, op := .load false 1 (.t 25), guard := some (24, true) },
  { dst := some 27, op := .faddr 15 (.t 3), guard := some (24, true) },
  { dst := some 28, op := .load false 1 (.t 27), guard := some (24, true) },
  { dst := some 29, op := .bin .eql (.t 26) (.t 28), guard := some (24, true) },
  { dst := some 30, op := .pick (.t 24) (.t 29) (.c (.v (.bool false))) },
  { dst := some 31, op := .move (.t 30) },
  { dst := some 32, op := .faddr 16 (.t 2), guard := some (31, true) },
  { dst := some 33, op := .load false 1 (.t 32), guard := some (31, true) },
  { dst := some 34, op := .faddr 16 (.t 3), guard := some (31, true) },
  { dst := some 35, op := .load false 1 (.t 34), guard := some (31, true) },
  { dst := some 36, op := .beq false (.t 33) (.t 35), guard := some (31, true) },
  { dst := some 37, op := .pick (.t 31) (.t 36) (.c (.v (.bool false))) },
  { dst := some 4, op := .move (.t 37) }])
 .ret))⟩
/-- slices.EqualFunc[[]arras.api.Look,[]arras.api.Look,arras.api.Look,arras.api.Look] -/
def F127 : AFun := ⟨true, 32, [.t 6], (.seq (.region [{ dst := some 6, op := .move (.c (.v (.bool false))) }])
 (.seq (.seq (.region [{ dst := some 10, op := .move (.t 0) },
  { dst := some 11, op := .len (.t 10) },
  { dst := some 12, op := .move (.t 1) },
  { dst := some 13, op := .len (.t 12) },
  { dst := some 14, op := .bin .neq (.t 11) (.t 13) }])
 (.cond (.t 14) (.seq (.region [{ dst := some 6, op := .move (.c (.v (.bool false))) }])
 .ret) .skip))
 (.seq (.seq (.region [{ dst := some 15, op := .move (.t 0) },
  { dst := some 16, op := .len (.t 15) },
  { dst := some 17, op := .move (.c (.v (.int .i64 0))) }])
 (.block 0 (.loop (.seq (.region [{ dst := some 18, op := .bin .lss (.t 17) (.t 16) }])
 (.seq (.cond (.t 18) .skip (.exit 0))
 (.seq (.block 1 (.seq (.region [{ dst := some 19, op := .move (.t 17) },
  { dst := some 20, op := .iaddr 3 (.t 15) (.t 17) },
  { dst := some 21, op := .load true 3 (.t 20) },
  { dst := some 8, op := .alloc 162 [.v (.int .i64 0), .v (.int .i64 0), .v (.slice none 0 0)] },
  { dst := some 7, op := .move (.t 19) },
  { dst := none, op := .store 3 (.t 8) (.t 21) }])
 (.seq (.region [{ dst := some 22, op := .move (.t 1) },
  { dst := some 23, op := .move (.t 7) },
  { dst := some 24, op := .iaddr 3 (.t 22) (.t 23) },
  { dst := some 25, op := .load true 3 (.t 24) },
  { dst := some 9, op := .alloc 162 [.v (.int .i64 0), .v (.int .i64 0), .v (.slice none 0 0)] },
  { dst := none, op := .store 3 (.t 9) (.t 25) }])
 (.seq (.region [{ dst := some 26, op := .move (.t 2) },
  { dst := some 27, op := .load true 3 (.t 8) },
  { dst := some 28, op := .load true 3 (.t 9) },
  { dst := some 29, op := .callv (.t 26) [(.t 27), (.t 28)] },
  { dst := some 30, op := .un .not (.t 29) }])
 (.cond (.t 30) (.seq (.region [{ dst := some 6, op := .move (.c (.v (.bool false))) }])
 .ret) .skip)))))
 (.region [{ dst := some 31, op := .bin .add (.t 17) (.c (.v (.int .i64 1))) },
  { dst := some 17, op := .move (.t 31) }])))))))
 (.seq (.region [{ dst := some 6, op := .move (.c (.v (.bool true))) }])
 .ret))))⟩
/-- arras.op.Less -/
def F130 : AFun := ⟨true, 11, [.t 4], (.seq (.region [{ dst := some 2, op := .box 75 12 (.t 0) },
  { dst := some 3, op := .box 75 12 (.t 1) },
  { dst := some 4, op := .move (.c (.v (.bool false))) }])
 (.seq (.region [{ dst := some 5, op := .faddr 0 (.t 2) },
  { dst := some 6, op := .load true 2 (.t 5) },
  { dst := some 7, op := .faddr 0 (.t 3) },
  { dst := some 8, op := .load true 2 (.t 7) },
  { dst := some 9, op := .call 178 [(.t 6), (.t 8)] },
  { dst := some 10, op := .bin .lss (.t 9) (.c (.v (.int .i64 0))) },
  { dst := some 4, op := .move (.t 10) }])
 .ret))⟩
/-- slices.ContainsFunc[[]arras.api.Op,arras.api.Op] -/
def F131 : AFun := ⟨true, 9, [.t 4], (.seq (.region [{ dst := some 4, op := .move (.c (.v (.bool false))) }])
 (.seq (.region [{ dst := some 5, op := .move (.t 0) },
  { dst := some 6, op := .move (.t 1) },
  { dst := some 7, op := .call 179 [(.t 5), (.t 6)] },
  { dst := some 8, op := .bin .geq (.t 7) (.c (.v (.int .i64 0))) },
  { dst := some 4, op := .move (.t 8) }])
 .ret))⟩
/-- arras.replica.issued -/
def F134 : AFun := ⟨true, 104, [.cell 4 true 12, .t 5], (.seq (.region [{ dst := some 2, op := .box 32 11 (.t 0) },
  { dst := some 3, op := .box 51 10 (.t 1) },
  { dst := some 4, op := .alloc 75 [.v (.int .i64 0), .v (.int .i64 0), .v (.int .i64 0), .v (.slice none 0 0), .v (.int .i64 0), .v (.int .i64 0), .v (.int .i64 0), .v (.int .i64 0), .v (.int .i64 0), .v (.string ⟨#[]⟩), .v (.int .i64 0), .v (.int .i64 0)] },
  { dst := some 5, op := .move (.c (.v (.int .i64 0))) }])
 (.seq (.seq (.region [{ dst := some 9, op := .faddr 1 (.t 2) },
  { dst := some 10, op := .load false 1 (.t 9) },
  { dst := some 11, op := .faddr 0 (.t 2) },
  { dst := some 12, op := .load false 1 (.t 11) },
  { dst := some 13, op := .call 180 [(.t 10), (.t 12)] },
  { dst := some 8, op := .move (.t 13) },
  { dst := some 14, op := .ext (.t 8) 0 },
  { dst := some 15, op := .ext (.t 8) 1 },
  { dst := some 16, op := .faddr 0 (.t 4) },
  { dst := none, op := .store 2 (.t 16) (.t 14) },
  { dst := some 5, op := .move (.t 15) }])
 (.seq (.region [{ dst := some 17, op := .move (.t 5) },
  { dst := some 18, op := .bin .neq (.t 17) (.c (.v (.int .i64 0))) }])
 (.cond (.t 18) (.seq (.region [{ dst := some 19, op := .load true 12 (.t 4) },
  { dst := some 20, op := .move (.t 5) },
  { dst := none, op := .store 12 (.t 4) (.t 19) },
  { dst := some 5, op := .move (.t 20) }])
 .ret) .skip)))
 (.seq (.dregion [{ dst := some 21, op := .faddr 2 (.t 2) },
  { dst := some 22, op := .load false 1 (.t 21) },
  { dst := some 23, op := .faddr 0 (.t 2) },
  { dst := some 24, op := .load false 1 (.t 23) },
  { dst := some 25, op := .iaddr 1 (.t 22) (.t 24) },
  { dst := some 26, op := .load false 1 (.t 25) },
  { dst := some 27, op := .bin .add (.t 26) (.c (.v (.int .i64 1))) },
  { dst := some 28, op := .faddr 2 (.t 2) },
  { dst := some 29, op := .load false 1 (.t 28) },
  { dst := some 30, op := .call 121 [(.t 29)], un := [1, 3, 5] },
  { dst := some 31, op := .faddr 1 (.t 3) },
  { dst := some 32, op := .load true 2 (.t 31), un := [9] },
  { dst := some 33, op := .faddr 2 (.t 4) },
  { dst := none, op := .store 1 (.t 33) (.t 27), un := [11] },
  { dst := some 34, op := .faddr 3 (.t 4) },
  { dst := none, op := .store 1 (.t 34) (.t 30), un := [11] },
  { dst := some 35, op := .faddr 4 (.t 4) },
  { dst := none, op := .store 1 (.t 35) (.c (.v (.int .i64 1))), un := [11] },
  { dst := some 36, op := .faddr 5 (.t 4) },
  { dst := none, op := .store 2 (.t 36) (.t 32) }])
 (.seq (.seq (.region [{ dst := some 38, op := .faddr 5 (.t 2) },
  { dst := some 39, op := .faddr 0 (.t 38) },
  { dst := some 40, op := .load true 2 (.t 39) },
  { dst := some 41, op := .faddr 1 (.t 3) },
  { dst := some 42, op := .load true 2 (.t 41) },
  { dst := some 43, op := .call 181 [(.t 40), (.t 42)] },
  { dst := some 37, op := .move (.t 43) },
  { dst := some 44, op := .ext (.t 37) 0 },
  { dst := some 45, op := .ext (.t 37) 1 },
  { dst := some 6, op := .alloc 197 [.v (.int .i64 0), .v (.int .i64 0), .v (.int .i64 0), .v (.int .i64 0), .v (.string ⟨#[]⟩)] },
  { dst := none, op := .store 5 (.t 6) (.t 44) },
  { dst := some 7, op := .move (.t 45) }])
 (.seq (.region [{ dst := some 46, op := .move (.t 7) },
  { dst := some 47, op := .un .not (.t 46) },
  { dst := some 48, op := .move (.t 47) },
  { dst := some 49, op := .faddr 0 (.t 3), guard := some (48, true) },
  { dst := some 50, op := .load false 1 (.t 49), guard := some (48, true) },
  { dst := some 51, op := .bin .eql (.t 50) (.c (.v (.int .i64 2))), guard := some (48, true) },
  { dst := some 52, op := .move (.t 51), guard := some (48, true) },
  { dst := some 53, op := .faddr 0 (.t 3), guard := some (52, false) },
  { dst := some 54, op := .load false 1 (.t 53), guard := some (52, false) },
  { dst := some 55, op := .bin .eql (.t 54) (.c (.v (.int .i64 3))), guard := some (52, false) },
  { dst := some 56, op := .pick (.t 52) (.c (.v (.bool true))) (.t 55), guard := some (48, true) },
  { dst := some 57, op := .pick (.t 48) (.t 56) (.c (.v (.bool false))) }])
 (.cond (.t 57) (.seq (.region [{ dst := some 58, op := .load true 12 (.t 4) },
  { dst := none, op := .store 12 (.t 4) (.t 58) },
  { dst := some 5, op := .move (.c (.v (.int .i64 3))) }])
 .ret) .skip)))
 (.seq (.seq (.region [{ dst := some 59, op := .faddr 0 (.t 3) },
  { dst := some 60, op := .load false 1 (.t 59) }])
 (.block 0 (.seq (.region [{ dst := some 76, op := .bin .eql (.t 60) (.c (.v (.int .i64 3))) },
  { dst := some 75, op := .move (.t 76) }])
 (.cond (.t 75) (.dregion [{ dst := some 77, op := .call 182 [] },
  { dst := some 78, op := .buildSlice 5 1 1 [.v (.int .u8 0)] [(0, 1, (.c (.v (.int .u8 128))))], un := [0] },
  { dst := some 79, op := .b2s (.t 78) },
  { dst := some 80, op := .faddr 7 (.t 4) },
  { dst := none, op := .store 2 (.t 80) (.t 77), un := [1, 2] },
  { dst := some 81, op := .faddr 9 (.t 4) },
  { dst := none, op := .store 1 (.t 81) (.t 79) }]) (.seq (.region [{ dst := some 83, op := .bin .eql (.t 60) (.c (.v (.int .i64 4))) },
  { dst := some 82, op := .move (.t 83) }])
 (.cond (.t 82) (.seq (.dregion [{ dst := some 84, op := .faddr 7 (.t 3) },
  { dst := some 85, op := .load false 1 (.t 84) },
  { dst := some 86, op := .faddr 8 (.t 3) },
  { dst := some 87, op := .load false 1 (.t 86) },
  { dst := some 88, op := .faddr 4 (.t 4) },
  { dst := none, op := .store 1 (.t 88) (.c (.v (.int .i64 2))), un := [1, 3] },
  { dst := some 89, op := .faddr 10 (.t 4) },
  { dst := none, op := .store 1 (.t 89) (.t 85), un := [3] },
  { dst := some 90, op := .faddr 11 (.t 4) },
  { dst := none, op := .store 1 (.t 90) (.t 87) }])
 (.region [{ dst := some 91, op := .faddr 7 (.t 3) },
  { dst := some 92, op := .load false 1 (.t 91) },
  { dst := some 93, op := .faddr 8 (.t 3) },
  { dst := some 94, op := .load false 1 (.t 93) },
  { dst := some 95, op := .call 183 [(.t 92), (.t 94)] },
  { dst := some 5, op := .move (.t 95) }])) (.seq (.region [{ dst := some 61, op := .faddr 3 (.t 3) },
  { dst := some 62, op := .load true 2 (.t 61) },
  { dst := some 63, op := .faddr 7 (.t 4) },
  { dst := none, op := .store 2 (.t 63) (.t 62) }])
 (.region [{ dst := some 65, op := .faddr 5 (.t 2) },
  { dst := some 66, op := .load true 3 (.t 65) },
  { dst := some 67, op := .faddr 3 (.t 3) },
  { dst := some 68, op := .load true 2 (.t 67) },
  { dst := some 69, op := .faddr 5 (.t 3) },
  { dst := some 70, op := .load true 2 (.t 69) },
  { dst := some 71, op := .call 184 [(.t 66), (.t 68), (.t 70)] },
  { dst := some 64, op := .move (.t 71) },
  { dst := some 72, op := .ext (.t 64) 0 },
  { dst := some 73, op := .ext (.t 64) 1 },
  { dst := some 74, op := .faddr 9 (.t 4) },
  { dst := none, op := .store 1 (.t 74) (.t 72) },
  { dst := some 5, op := .move (.t 73) }]))))))))
 (.seq (.seq (.region [{ dst := some 96, op := .faddr 0 (.t 3) },
  { dst := some 97, op := .load false 1 (.t 96) },
  { dst := some 98, op := .bin .eql (.t 97) (.c (.v (.int .i64 1))) }])
 (.cond (.t 98) (.region [{ dst := some 99, op := .faddr 0 (.t 4) },
  { dst := some 100, op := .load true 2 (.t 99) },
  { dst := some 101, op := .faddr 5 (.t 4) },
  { dst := none, op := .store 2 (.t 101) (.t 100) }]) .skip))
 (.seq (.region [{ dst := some 102, op := .load true 12 (.t 4) },
  { dst := some 103, op := .move (.t 5) },
  { dst := none, op := .store 12 (.t 4) (.t 102) },
  { dst := some 5, op := .move (.t 103) }])
 .ret)))))))⟩
/-- arras.shape.Lets -/
def F135 : AFun := ⟨true, 24, [.t 4], (.seq (.region [{ dst := some 2, op := .box 30 3 (.t 0) },
  { dst := some 3, op := .box 75 12 (.t 1) },
  { dst := some 4, op := .move (.c (.v (.int .i64 0))) }])
 (.seq (.seq (.region [{ dst := some 7, op := .faddr 4 (.t 3) },
  { dst := some 8, op := .load false 1 (.t 7) },
  { dst := some 9, op := .bin .eql (.t 8) (.c (.v (.int .i64 1))) }])
 (.cond (.t 9) (.seq (.region [{ dst := some 10, op := .faddr 0 (.t 2) },
  { dst := some 11, op := .load true 2 (.t 10) },
  { dst := some 12, op := .load true 12 (.t 3) },
  { dst := some 13, op := .call 185 [(.t 11), (.t 12)] },
  { dst := some 4, op := .move (.t 13) }])
 .ret) .skip))
 (.seq (.seq (.region [{ dst := some 15, op := .faddr 0 (.t 2) },
  { dst := some 16, op := .load true 2 (.t 15) },
  { dst := some 17, op := .faddr 5 (.t 3) },
  { dst := some 18, op := .load true 2 (.t 17) },
  { dst := some 19, op := .call 181 [(.t 16), (.t 18)] },
  { dst := some 14, op := .move (.t 19) },
  { dst := some 20, op := .ext (.t 14) 0 },
  { dst := some 21, op := .ext (.t 14) 1 },
  { dst := some 5, op := .alloc 197 [.v (.int .i64 0), .v (.int .i64 0), .v (.int .i64 0), .v (.int .i64 0), .v (.string ⟨#[]⟩)] },
  { dst := none, op := .store 5 (.t 5) (.t 20) },
  { dst := some 6, op := .move (.t 21) }])
 (.seq (.region [{ dst := some 22, op := .move (.t 6) },
  { dst := some 23, op := .un .not (.t 22) }])
 (.cond (.t 23) (.seq (.region [{ dst := some 4, op := .move (.c (.v (.int .i64 3))) }])
 .ret) .skip)))
 (.seq (.region [{ dst := some 4, op := .move (.c (.v (.int .i64 0))) }])
 .ret))))⟩
/-- arras.stamp.Is -/
def F140 : AFun := ⟨true, 21, [.t 2], (.seq (.region [{ dst := some 1, op := .box 41 2 (.t 0) },
  { dst := some 2, op := .move (.c (.v (.bool false))) }])
 (.seq (.region [{ dst := some 3, op := .faddr 0 (.t 1) },
  { dst := some 4, op := .load false 1 (.t 3) },
  { dst := some 5, op := .bin .geq (.t 4) (.c (.v (.int .i64 1))) },
  { dst := some 6, op := .move (.t 5) },
  { dst := some 7, op := .faddr 0 (.t 1), guard := some (6, true) },
  { dst := some 8, op := .load false 1 (.t 7), guard := some (6, true) },
  { dst := some 9, op := .bin .leq (.t 8) (.c (.v (.int .i64 1099511627776))), guard := some (6, true) },
  { dst := some 10, op := .pick (.t 6) (.t 9) (.c (.v (.bool false))) },
  { dst := some 11, op := .move (.t 10) },
  { dst := some 12, op := .faddr 1 (.t 1), guard := some (11, true) },
  { dst := some 13, op := .load false 1 (.t 12), guard := some (11, true) },
  { dst := some 14, op := .bin .geq (.t 13) (.c (.v (.int .i64 0))), guard := some (11, true) },
  { dst := some 15, op := .pick (.t 11) (.t 14) (.c (.v (.bool false))) },
  { dst := some 16, op := .move (.t 15) },
  { dst := some 17, op := .faddr 1 (.t 1), guard := some (16, true) },
  { dst := some 18, op := .load false 1 (.t 17), guard := some (16, true) },
  { dst := some 19, op := .bin .lss (.t 18) (.c (.v (.int .i64 16))), guard := some (16, true) },
  { dst := some 20, op := .pick (.t 16) (.t 19) (.c (.v (.bool false))) },
  { dst := some 2, op := .move (.t 20) }])
 .ret))⟩
/-- arras.op.kind -/
def F141 : AFun := ⟨true, 43, [.t 2], (.seq (.region [{ dst := some 1, op := .box 75 12 (.t 0) },
  { dst := some 2, op := .move (.c (.v (.bool false))) }])
 (.seq (.seq (.region [{ dst := some 3, op := .faddr 4 (.t 1) },
  { dst := some 4, op := .load false 1 (.t 3) }])
 (.block 0 (.seq (.region [{ dst := some 6, op := .bin .eql (.t 4) (.c (.v (.int .i64 1))) },
  { dst := some 5, op := .move (.t 6) }])
 (.cond (.t 5) (.seq (.region [{ dst := some 7, op := .faddr 7 (.t 1) },
  { dst := some 8, op := .load true 2 (.t 7) },
  { dst := some 9, op := .call 191 [(.t 8)] },
  { dst := some 10, op := .move (.t 9) },
  { dst := some 11, op := .faddr 9 (.t 1), guard := some (10, true) },
  { dst := some 12, op := .load false 1 (.t 11), guard := some (10, true) },
  { dst := some 13, op := .call 192 [(.t 12)], guard := some (10, true) },
  { dst := some 14, op := .pick (.t 10) (.t 13) (.c (.v (.bool false))) },
  { dst := some 15, op := .move (.t 14) },
  { dst := some 16, op := .faddr 10 (.t 1), guard := some (15, true) },
  { dst := some 17, op := .load false 1 (.t 16), guard := some (15, true) },
  { dst := some 18, op := .bin .eql (.t 17) (.c (.v (.int .i64 0))), guard := some (15, true) },
  { dst := some 19, op := .pick (.t 15) (.t 18) (.c (.v (.bool false))) },
  { dst := some 20, op := .move (.t 19) },
  { dst := some 21, op := .faddr 11 (.t 1), guard := some (20, true) },
  { dst := some 22, op := .load false 1 (.t 21), guard := some (20, true) },
  { dst := some 23, op := .bin .eql (.t 22) (.c (.v (.int .i64 0))), guard := some (20, true) },
  { dst := some 24, op := .pick (.t 20) (.t 23) (.c (.v (.bool false))) },
  { dst := some 2, op := .move (.t 24) }])
 .ret) (.seq (.region [{ dst := some 26, op := .bin .eql (.t 4) (.c (.v (.int .i64 2))) },
  { dst := some 25, op := .move (.t 26) }])
 (.cond (.t 25) (.seq (.dregion [{ dst := some 27, op := .faddr 10 (.t 1) },
  { dst := some 28, op := .load false 1 (.t 27) },
  { dst := some 29, op := .faddr 11 (.t 1) },
  { dst := some 30, op := .load false 1 (.t 29) },
  { dst := some 31, op := .call 193 [(.t 28), (.t 30)] },
  { dst := some 32, op := .move (.t 31) },
  { dst := some 33, op := .faddr 7 (.t 1), guard := some (32, true) },
  { dst := some 34, op := .load true 2 (.t 33), guard := some (32, true) },
  { dst := some 35, op := .call 189 [], guard := some (32, true) },
  { dst := some 36, op := .eqAgg false [1, 1] (.t 34) (.t 35), guard := some (32, true) },
  { dst := some 37, op := .pick (.t 32) (.t 36) (.c (.v (.bool false))) },
  { dst := some 38, op := .move (.t 37) },
  { dst := some 39, op := .faddr 9 (.t 1), guard := some (38, true) },
  { dst := some 40, op := .load false 1 (.t 39), guard := some (38, true) },
  { dst := some 41, op := .bin .eql (.t 40) (.c (.v (.string ⟨#[]⟩))), guard := some (38, true) },
  { dst := some 42, op := .pick (.t 38) (.t 41) (.c (.v (.bool false))) },
  { dst := some 2, op := .move (.t 42) }])
 .ret) .skip))))))
 (.seq (.region [{ dst := some 2, op := .move (.c (.v (.bool false))) }])
 .ret)))⟩
/-- arras.have.Over -/
def F142 : AFun := ⟨true, 21, [.t 4], (.seq (.region [{ dst := some 4, op := .move (.c (.v (.bool false))) }])
 (.seq (.seq (.region [{ dst := some 6, op := .move (.t 0) },
  { dst := some 7, op := .len (.t 6) },
  { dst := some 8, op := .move (.c (.v (.int .i64 0))) }])
 (.block 0 (.loop (.seq (.region [{ dst := some 9, op := .bin .lss (.t 8) (.t 7) }])
 (.seq (.cond (.t 9) .skip (.exit 0))
 (.seq (.block 1 (.seq (.region [{ dst := some 10, op := .move (.t 8) },
  { dst := some 5, op := .move (.t 10) }])
 (.seq (.dregion [{ dst := some 11, op := .move (.t 1) },
  { dst := some 12, op := .move (.t 5) },
  { dst := some 13, op := .iaddr 1 (.t 11) (.t 12) },
  { dst := some 14, op := .load false 1 (.t 13) },
  { dst := some 15, op := .move (.t 0) },
  { dst := some 16, op := .move (.t 5) },
  { dst := some 17, op := .iaddr 1 (.t 15) (.t 16) },
  { dst := some 18, op := .load false 1 (.t 17) },
  { dst := some 19, op := .bin .gtr (.t 14) (.t 18) }])
 (.cond (.t 19) (.seq (.region [{ dst := some 4, op := .move (.c (.v (.bool false))) }])
 .ret) .skip))))
 (.region [{ dst := some 20, op := .bin .add (.t 8) (.c (.v (.int .i64 1))) },
  { dst := some 8, op := .move (.t 20) }])))))))
 (.seq (.region [{ dst := some 4, op := .move (.c (.v (.bool true))) }])
 .ret)))⟩
/-- arras.op.Own -/
def F143 : AFun := ⟨true, 8, [.cell 2 true 12], (.seq (.region [{ dst := some 1, op := .box 75 12 (.t 0) },
  { dst := some 2, op := .alloc 75 [.v (.int .i64 0), .v (.int .i64 0), .v (.int .i64 0), .v (.slice none 0 0), .v (.int .i64 0), .v (.int .i64 0), .v (.int .i64 0), .v (.int .i64 0), .v (.int .i64 0), .v (.string ⟨#[]⟩), .v (.int .i64 0), .v (.int .i64 0)] }])
 (.seq (.region [{ dst := some 3, op := .faddr 3 (.t 1) },
  { dst := some 4, op := .load false 1 (.t 3) },
  { dst := some 5, op := .call 121 [(.t 4)] },
  { dst := some 6, op := .faddr 3 (.t 1) },
  { dst := none, op := .store 1 (.t 6) (.t 5) }])
 (.seq (.region [{ dst := some 7, op := .load true 12 (.t 1) },
  { dst := none, op := .store 12 (.t 2) (.t 7) }])
 .ret)))⟩
/-- arras.replica.put -/
def F144 : AFun := ⟨false, 23, [.cell 4 true 3], (.seq (.region [{ dst := some 2, op := .box 30 3 (.t 0) },
  { dst := some 3, op := .box 75 12 (.t 1) },
  { dst := some 4, op := .alloc 30 [.v (.slice none 0 0), .v (.slice none 0 0), .v (.slice none 0 0)] }])
 (.seq (.seq (.region [{ dst := some 5, op := .faddr 4 (.t 3) },
  { dst := some 6, op := .load false 1 (.t 5) },
  { dst := some 7, op := .bin .eql (.t 6) (.c (.v (.int .i64 1))) },
  { dst := some 8, op := .move (.t 7) },
  { dst := some 9, op := .faddr 0 (.t 2), guard := some (8, true) },
  { dst := some 10, op := .faddr 1 (.t 9), guard := some (8, true) },
  { dst := some 11, op := .load false 1 (.t 10), guard := some (8, true) },
  { dst := some 12, op := .mkfn 195 [(.t 3)], guard := some (8, true) },
  { dst := some 13, op := .call 194 [(.t 11), (.t 12)], guard := some (8, true) },
  { dst := some 14, op := .pick (.t 8) (.t 13) (.c (.v (.bool false))) }])
 (.cond (.t 14) (.seq (.region [{ dst := some 15, op := .load true 3 (.t 2) },
  { dst := none, op := .store 3 (.t 4) (.t 15) }])
 .ret) .skip))
 (.seq (.region [{ dst := some 17, op := .load true 3 (.t 2) },
  { dst := some 18, op := .load true 12 (.t 3) },
  { dst := some 19, op := .call 196 [(.t 17), (.t 18)] },
  { dst := some 16, op := .move (.t 19) },
  { dst := some 20, op := .ext (.t 16) 0 },
  { dst := some 21, op := .ext (.t 16) 1 },
  { dst := none, op := .store 3 (.t 2) (.t 20) }])
 (.seq (.region [{ dst := some 22, op := .load true 3 (.t 2) },
  { dst := none, op := .store 3 (.t 4) (.t 22) }])
 .ret))))⟩
/-- arras.arrasref6.Stamp -/
def F145 : AFun := ⟨true, 16, [.t 2], (.seq (.region [{ dst := some 1, op := .box 41 2 (.t 0) },
  { dst := some 2, op := .move (.c (.v (.bool false))) }])
 (.seq (.region [{ dst := some 3, op := .faddr 0 (.t 1) },
  { dst := some 4, op := .load false 1 (.t 3) },
  { dst := some 5, op := .bin .geq (.t 4) (.c (.v (.int .i64 1))) },
  { dst := some 6, op := .move (.t 5) },
  { dst := some 7, op := .faddr 0 (.t 1), guard := some (6, true) },
  { dst := some 8, op := .load false 1 (.t 7), guard := some (6, true) },
  { dst := some 9, op := .bin .leq (.t 8) (.c (.v (.int .i64 1099511627776))), guard := some (6, true) },
  { dst := some 10, op := .pick (.t 6) (.t 9) (.c (.v (.bool false))) },
  { dst := some 11, op := .move (.t 10) },
  { dst := some 12, op := .faddr 1 (.t 1), guard := some (11, true) },
  { dst := some 13, op := .load false 1 (.t 12), guard := some (11, true) },
  { dst := some 14, op := .call 46 [(.t 13), (.c (.v (.int .i64 15)))], guard := some (11, true) },
  { dst := some 15, op := .pick (.t 11) (.t 14) (.c (.v (.bool false))) },
  { dst := some 2, op := .move (.t 15) }])
 .ret))⟩
/-- arras.arrasref6.Place -/
def F146 : AFun := ⟨true, 15, [.t 2], (.seq (.region [{ dst := some 1, op := .box 41 2 (.t 0) },
  { dst := some 2, op := .move (.c (.v (.bool false))) }])
 (.seq (.dregion [{ dst := some 3, op := .load true 2 (.t 1) },
  { dst := some 4, op := .call 145 [(.t 3)] },
  { dst := some 5, op := .move (.t 4) },
  { dst := some 6, op := .load true 2 (.t 1), guard := some (5, false) },
  { dst := some 7, op := .call 197 [], guard := some (5, false) },
  { dst := some 8, op := .eqAgg false [1, 1] (.t 6) (.t 7), guard := some (5, false) },
  { dst := some 9, op := .pick (.t 5) (.c (.v (.bool true))) (.t 8) },
  { dst := some 10, op := .move (.t 9) },
  { dst := some 11, op := .load true 2 (.t 1), guard := some (10, false) },
  { dst := some 12, op := .call 198 [], guard := some (10, false), un := [8] },
  { dst := some 13, op := .eqAgg false [1, 1] (.t 11) (.t 12), guard := some (10, false) },
  { dst := some 14, op := .pick (.t 10) (.c (.v (.bool true))) (.t 13) },
  { dst := some 2, op := .move (.t 14) }])
 .ret))⟩
/-- arras.arrasref8.Key -/
def F147 : AFun := ⟨true, 19, [.t 2], (.seq (.region [{ dst := some 2, op := .move (.c (.v (.bool false))) }])
 (.seq (.region [{ dst := some 3, op := .move (.t 0) },
  { dst := some 4, op := .lenS (.t 3) },
  { dst := some 5, op := .bin .geq (.t 4) (.c (.v (.int .i64 1))) },
  { dst := some 6, op := .move (.t 5) },
  { dst := some 7, op := .move (.t 0), guard := some (6, true) },
  { dst := some 8, op := .lenS (.t 7), guard := some (6, true) },
  { dst := some 9, op := .bin .leq (.t 8) (.c (.v (.int .i64 64))), guard := some (6, true) },
  { dst := some 10, op := .pick (.t 6) (.t 9) (.c (.v (.bool false))) },
  { dst := some 11, op := .move (.t 10) },
  { dst := some 12, op := .move (.t 0), guard := some (11, true) },
  { dst := some 13, op := .move (.t 0), guard := some (11, true) },
  { dst := some 14, op := .lenS (.t 13), guard := some (11, true) },
  { dst := some 15, op := .bin .sub (.t 14) (.c (.v (.int .i64 1))), guard := some (11, true) },
  { dst := some 16, op := .index (.t 12) (.t 15), guard := some (11, true) },
  { dst := some 17, op := .bin .neq (.t 16) (.c (.v (.int .u8 0))), guard := some (11, true) },
  { dst := some 18, op := .pick (.t 11) (.t 17) (.c (.v (.bool false))) },
  { dst := some 2, op := .move (.t 18) }])
 .ret))⟩
end Go.Am.Fs
