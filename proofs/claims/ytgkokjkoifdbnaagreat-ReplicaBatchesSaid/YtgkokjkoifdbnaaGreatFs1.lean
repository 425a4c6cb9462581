import Derived.Test.YtgkokjkoifdbnaaGreatAm0
/- The functions of the program as the interpreter has them. -/
set_option maxRecDepth 100000
namespace Go.Am.Fs
open Go.Am

/-- arras.arrasref0.CopyShape -/
def F149 : AFun := ⟨true, 14, [.cell 2 true 3], (.seq (.region [{ dst := some 1, op := .box 30 3 (.t 0) },
  { dst := some 2, op := .alloc 30 [.v (.slice none 0 0), .v (.slice none 0 0), .v (.slice none 0 0)] }])
 (.seq (.region [{ dst := some 4, op := .load true 3 (.t 1) },
  { dst := some 3, op := .alloc 30 [.v (.slice none 0 0), .v (.slice none 0 0), .v (.slice none 0 0)] },
  { dst := none, op := .store 3 (.t 3) (.t 4) }])
 (.seq (.region [{ dst := some 5, op := .faddr 0 (.t 1) },
  { dst := some 6, op := .load true 2 (.t 5) },
  { dst := some 7, op := .call 151 [(.t 6)] },
  { dst := some 8, op := .faddr 0 (.t 3) },
  { dst := none, op := .store 2 (.t 8) (.t 7) }])
 (.seq (.region [{ dst := some 9, op := .faddr 2 (.t 1) },
  { dst := some 10, op := .load false 1 (.t 9) },
  { dst := some 11, op := .call 200 [(.t 10)] },
  { dst := some 12, op := .faddr 2 (.t 3) },
  { dst := none, op := .store 1 (.t 12) (.t 11) }])
 (.seq (.region [{ dst := some 13, op := .load true 3 (.t 3) },
  { dst := none, op := .store 3 (.t 2) (.t 13) }])
 .ret)))))⟩
/-- arras.arrasref16.Apply -/
def F150 : AFun := ⟨true, 55, [.cell 4 true 2, .t 5], (.seq (.region [{ dst := some 2, op := .box 27 2 (.t 0) },
  { dst := some 3, op := .box 75 12 (.t 1) },
  { dst := some 4, op := .alloc 27 [.v (.slice none 0 0), .v (.slice none 0 0)] },
  { dst := some 5, op := .move (.c (.v (.bool false))) }])
 (.seq (.region [{ dst := some 6, op := .move (.c (.v (.slice none 0 0))) }])
 (.seq (.region [{ dst := some 7, op := .move (.c (.v (.bool false))) }])
 (.seq (.region [{ dst := some 11, op := .load true 2 (.t 2) },
  { dst := some 12, op := .call 201 [(.t 11)] },
  { dst := some 8, op := .move (.t 12) }])
 (.seq (.seq (.region [{ dst := some 9, op := .move (.c (.v (.int .i64 0))) }])
 (.block 0 (.loop (.seq (.seq (.region [{ dst := some 13, op := .move (.t 9) },
  { dst := some 14, op := .move (.t 8) },
  { dst := some 15, op := .len (.t 14) },
  { dst := some 16, op := .bin .lss (.t 13) (.t 15) }])
 (.cond (.t 16) .skip (.exit 0)))
 (.seq (.block 1 (.seq (.dregion [{ dst := some 19, op := .move (.t 8) },
  { dst := some 20, op := .move (.t 9) },
  { dst := some 21, op := .iaddr 12 (.t 19) (.t 20) },
  { dst := some 22, op := .faddr 0 (.t 21) },
  { dst := some 23, op := .load true 2 (.t 22) },
  { dst := some 24, op := .faddr 0 (.t 3) },
  { dst := some 25, op := .load true 2 (.t 24) },
  { dst := some 26, op := .call 111 [(.t 23), (.t 25)] },
  { dst := some 10, op := .move (.t 26) }])
 (.seq (.seq (.region [{ dst := some 27, op := .move (.t 10) },
  { dst := some 28, op := .bin .eql (.t 27) (.c (.v (.int .i64 0))) }])
 (.cond (.t 28) (.seq (.region [{ dst := some 29, op := .load true 2 (.t 2) },
  { dst := none, op := .store 2 (.t 4) (.t 29) },
  { dst := some 5, op := .move (.c (.v (.bool false))) }])
 .ret) .skip))
 (.seq (.seq (.region [{ dst := some 30, op := .move (.t 7) },
  { dst := some 31, op := .un .not (.t 30) },
  { dst := some 32, op := .move (.t 31) },
  { dst := some 33, op := .move (.t 10), guard := some (32, true) },
  { dst := some 34, op := .bin .gtr (.t 33) (.c (.v (.int .i64 0))), guard := some (32, true) },
  { dst := some 35, op := .pick (.t 32) (.t 34) (.c (.v (.bool false))) }])
 (.cond (.t 35) (.seq (.region [{ dst := some 36, op := .move (.t 6) },
  { dst := some 37, op := .load true 12 (.t 3) },
  { dst := some 38, op := .buildSlice 75 12 1 [.v (.int .i64 0), .v (.int .i64 0), .v (.int .i64 0), .v (.slice none 0 0), .v (.int .i64 0), .v (.int .i64 0), .v (.int .i64 0), .v (.int .i64 0), .v (.int .i64 0), .v (.string ⟨#[]⟩), .v (.int .i64 0), .v (.int .i64 0)] [(0, 12, (.t 37))] },
  { dst := some 39, op := .append 75 12 120 (.t 36) (.t 38) },
  { dst := some 6, op := .move (.t 39) }])
 (.region [{ dst := some 7, op := .move (.c (.v (.bool true))) }])) .skip))
 (.region [{ dst := some 40, op := .move (.t 6) },
  { dst := some 41, op := .move (.t 8) },
  { dst := some 42, op := .move (.t 9) },
  { dst := some 43, op := .iaddr 12 (.t 41) (.t 42) },
  { dst := some 44, op := .load true 12 (.t 43) },
  { dst := some 45, op := .buildSlice 75 12 1 [.v (.int .i64 0), .v (.int .i64 0), .v (.int .i64 0), .v (.slice none 0 0), .v (.int .i64 0), .v (.int .i64 0), .v (.int .i64 0), .v (.int .i64 0), .v (.int .i64 0), .v (.string ⟨#[]⟩), .v (.int .i64 0), .v (.int .i64 0)] [(0, 12, (.t 44))] },
  { dst := some 46, op := .append 75 12 120 (.t 40) (.t 45) },
  { dst := some 6, op := .move (.t 46) }])))))
 (.region [{ dst := some 17, op := .move (.t 9) },
  { dst := some 18, op := .bin .add (.t 17) (.c (.v (.int .i64 1))) },
  { dst := some 9, op := .move (.t 18) }]))))))
 (.seq (.seq (.region [{ dst := some 47, op := .move (.t 7) },
  { dst := some 48, op := .un .not (.t 47) }])
 (.cond (.t 48) (.region [{ dst := some 49, op := .move (.t 6) },
  { dst := some 50, op := .load true 12 (.t 3) },
  { dst := some 51, op := .buildSlice 75 12 1 [.v (.int .i64 0), .v (.int .i64 0), .v (.int .i64 0), .v (.slice none 0 0), .v (.int .i64 0), .v (.int .i64 0), .v (.int .i64 0), .v (.int .i64 0), .v (.int .i64 0), .v (.string ⟨#[]⟩), .v (.int .i64 0), .v (.int .i64 0)] [(0, 12, (.t 50))] },
  { dst := some 52, op := .append 75 12 120 (.t 49) (.t 51) },
  { dst := some 6, op := .move (.t 52) }]) .skip))
 (.seq (.region [{ dst := some 53, op := .move (.t 6) },
  { dst := some 54, op := .call 202 [(.t 53)] },
  { dst := none, op := .store 2 (.t 4) (.t 54) },
  { dst := some 5, op := .move (.c (.v (.bool true))) }])
 .ret)))))))⟩
/-- arras.arrasref0.CopyTree -/
def F151 : AFun := ⟨true, 14, [.cell 2 true 2], (.seq (.region [{ dst := some 1, op := .box 27 2 (.t 0) },
  { dst := some 2, op := .alloc 27 [.v (.slice none 0 0), .v (.slice none 0 0)] }])
 (.seq (.region [{ dst := some 4, op := .load true 2 (.t 1) },
  { dst := some 3, op := .alloc 27 [.v (.slice none 0 0), .v (.slice none 0 0)] },
  { dst := none, op := .store 2 (.t 3) (.t 4) }])
 (.seq (.region [{ dst := some 5, op := .faddr 0 (.t 1) },
  { dst := some 6, op := .load false 1 (.t 5) },
  { dst := some 7, op := .call 203 [(.t 6)] },
  { dst := some 8, op := .faddr 0 (.t 3) },
  { dst := none, op := .store 1 (.t 8) (.t 7) }])
 (.seq (.region [{ dst := some 9, op := .faddr 1 (.t 1) },
  { dst := some 10, op := .load false 1 (.t 9) },
  { dst := some 11, op := .call 204 [(.t 10)] },
  { dst := some 12, op := .faddr 1 (.t 3) },
  { dst := none, op := .store 1 (.t 12) (.t 11) }])
 (.seq (.region [{ dst := some 13, op := .load true 2 (.t 3) },
  { dst := none, op := .store 2 (.t 2) (.t 13) }])
 .ret)))))⟩
/-- arras.sum.Sum -/
def F153 : AFun := ⟨true, 34, [.t 4], (.seq (.region [{ dst := some 4, op := .move (.c (.v (.int .u32 0))) }])
 (.scope (.seq (.region [{ dst := some 7, op := .move (.t 0) },
  { dst := some 8, op := .un .xor (.t 7) },
  { dst := some 0, op := .move (.t 8) }])
 (.seq (.region [{ dst := some 5, op := .move (.c (.v (.int .i64 0))) },
  { dst := some 6, op := .move (.c (.v (.int .i64 8))) }])
 (.seq (.label 0)
 (.seq (.seq (.region [{ dst := some 9, op := .move (.t 6) },
  { dst := some 10, op := .bin .lss (.t 9) (.c (.v (.int .i64 8))) }])
 (.cond (.t 10) (.seq (.region [{ dst := some 11, op := .move (.t 0) },
  { dst := some 12, op := .bin .shr (.t 11) (.c (.v (.int .u64 1))) },
  { dst := some 13, op := .move (.t 0) },
  { dst := some 14, op := .bin .and (.t 13) (.c (.v (.int .u32 1))) },
  { dst := some 15, op := .bin .mul (.c (.v (.int .u32 3988292384))) (.t 14) },
  { dst := some 16, op := .bin .xor (.t 12) (.t 15) },
  { dst := some 0, op := .move (.t 16) }])
 (.seq (.region [{ dst := some 17, op := .move (.t 6) },
  { dst := some 18, op := .bin .add (.t 17) (.c (.v (.int .i64 1))) },
  { dst := some 6, op := .move (.t 18) }])
 (.goto 0))) .skip))
 (.seq (.seq (.region [{ dst := some 19, op := .move (.t 5) },
  { dst := some 20, op := .move (.t 1) },
  { dst := some 21, op := .len (.t 20) },
  { dst := some 22, op := .bin .lss (.t 19) (.t 21) }])
 (.cond (.t 22) (.seq (.region [{ dst := some 23, op := .move (.t 0) },
  { dst := some 24, op := .move (.t 1) },
  { dst := some 25, op := .move (.t 5) },
  { dst := some 26, op := .iaddr 1 (.t 24) (.t 25) },
  { dst := some 27, op := .load false 1 (.t 26) },
  { dst := some 28, op := .conv .u32 (.t 27) },
  { dst := some 29, op := .bin .xor (.t 23) (.t 28) },
  { dst := some 0, op := .move (.t 29) }])
 (.seq (.region [{ dst := some 30, op := .move (.t 5) },
  { dst := some 31, op := .bin .add (.t 30) (.c (.v (.int .i64 1))) },
  { dst := some 5, op := .move (.t 31) },
  { dst := some 6, op := .move (.c (.v (.int .i64 0))) }])
 (.goto 0))) .skip))
 (.seq (.region [{ dst := some 32, op := .move (.t 0) },
  { dst := some 33, op := .un .xor (.t 32) },
  { dst := some 4, op := .move (.t 33) }])
 .ret)))))) (.seq (.region [{ dst := some 7, op := .move (.t 0) },
  { dst := some 8, op := .un .xor (.t 7) },
  { dst := some 0, op := .move (.t 8) }])
 (.seq (.region [{ dst := some 5, op := .move (.c (.v (.int .i64 0))) },
  { dst := some 6, op := .move (.c (.v (.int .i64 8))) }])
 (.seq (.label 0)
 (.seq (.seq (.region [{ dst := some 9, op := .move (.t 6) },
  { dst := some 10, op := .bin .lss (.t 9) (.c (.v (.int .i64 8))) }])
 (.cond (.t 10) (.seq (.region [{ dst := some 11, op := .move (.t 0) },
  { dst := some 12, op := .bin .shr (.t 11) (.c (.v (.int .u64 1))) },
  { dst := some 13, op := .move (.t 0) },
  { dst := some 14, op := .bin .and (.t 13) (.c (.v (.int .u32 1))) },
  { dst := some 15, op := .bin .mul (.c (.v (.int .u32 3988292384))) (.t 14) },
  { dst := some 16, op := .bin .xor (.t 12) (.t 15) },
  { dst := some 0, op := .move (.t 16) }])
 (.seq (.region [{ dst := some 17, op := .move (.t 6) },
  { dst := some 18, op := .bin .add (.t 17) (.c (.v (.int .i64 1))) },
  { dst := some 6, op := .move (.t 18) }])
 (.goto 0))) .skip))
 (.seq (.seq (.region [{ dst := some 19, op := .move (.t 5) },
  { dst := some 20, op := .move (.t 1) },
  { dst := some 21, op := .len (.t 20) },
  { dst := some 22, op := .bin .lss (.t 19) (.t 21) }])
 (.cond (.t 22) (.seq (.region [{ dst := some 23, op := .move (.t 0) },
  { dst := some 24, op := .move (.t 1) },
  { dst := some 25, op := .move (.t 5) },
  { dst := some 26, op := .iaddr 1 (.t 24) (.t 25) },
  { dst := some 27, op := .load false 1 (.t 26) },
  { dst := some 28, op := .conv .u32 (.t 27) },
  { dst := some 29, op := .bin .xor (.t 23) (.t 28) },
  { dst := some 0, op := .move (.t 29) }])
 (.seq (.region [{ dst := some 30, op := .move (.t 5) },
  { dst := some 31, op := .bin .add (.t 30) (.c (.v (.int .i64 1))) },
  { dst := some 5, op := .move (.t 31) },
  { dst := some 6, op := .move (.c (.v (.int .i64 0))) }])
 (.goto 0))) .skip))
 (.seq (.region [{ dst := some 32, op := .move (.t 0) },
  { dst := some 33, op := .un .xor (.t 32) },
  { dst := some 4, op := .move (.t 33) }])
 .ret))))))))⟩
/-- arras.frame.read -/
def F154 : AFun := ⟨true, 86, [.cell 2 true 5, .t 3], (.seq (.region [{ dst := some 2, op := .alloc 67 [.v (.int .i64 0), .v (.int .i64 0), .v (.int .i64 0), .v (.slice none 0 0), .v (.slice none 0 0)] },
  { dst := some 3, op := .move (.c (.v (.bool false))) }])
 (.seq (.region [{ dst := some 12, op := .move (.t 0) },
  { dst := some 13, op := .call 205 [(.t 12), (.c (.v (.int .i64 3)))] },
  { dst := some 11, op := .move (.t 13) },
  { dst := some 14, op := .ext (.t 11) 0 },
  { dst := some 15, op := .ext (.t 11) 1 },
  { dst := some 16, op := .ext (.t 11) 2 },
  { dst := some 4, op := .move (.t 14) },
  { dst := some 0, op := .move (.t 15) },
  { dst := some 3, op := .move (.t 16) }])
 (.seq (.seq (.region [{ dst := some 17, op := .move (.t 3) },
  { dst := some 18, op := .un .not (.t 17) }])
 (.cond (.t 18) (.seq (.region [{ dst := some 19, op := .load true 5 (.t 2) },
  { dst := none, op := .store 5 (.t 2) (.t 19) },
  { dst := some 3, op := .move (.c (.v (.bool false))) }])
 .ret) .skip))
 (.seq (.dregion [{ dst := some 20, op := .move (.t 4) },
  { dst := some 21, op := .iaddr 1 (.t 20) (.c (.v (.int .i64 0))) },
  { dst := some 22, op := .load false 1 (.t 21) },
  { dst := some 23, op := .move (.t 4) },
  { dst := some 24, op := .iaddr 1 (.t 23) (.c (.v (.int .i64 1))) },
  { dst := some 25, op := .load false 1 (.t 24) },
  { dst := some 26, op := .move (.t 4) },
  { dst := some 27, op := .iaddr 1 (.t 26) (.c (.v (.int .i64 2))) },
  { dst := some 28, op := .load false 1 (.t 27) },
  { dst := some 29, op := .faddr 0 (.t 2) },
  { dst := none, op := .store 1 (.t 29) (.t 22), un := [5, 8] },
  { dst := some 30, op := .faddr 1 (.t 2) },
  { dst := none, op := .store 1 (.t 30) (.t 25), un := [8] },
  { dst := some 31, op := .faddr 2 (.t 2) },
  { dst := none, op := .store 1 (.t 31) (.t 28) }])
 (.seq (.seq (.region [{ dst := some 32, op := .faddr 2 (.t 2) },
  { dst := some 33, op := .load false 1 (.t 32) },
  { dst := some 34, op := .bin .eql (.t 33) (.c (.v (.int .i64 1))) }])
 (.cond (.t 34) (.seq (.region [{ dst := some 36, op := .move (.t 0) },
  { dst := some 37, op := .call 206 [(.t 36)] },
  { dst := some 35, op := .move (.t 37) },
  { dst := some 38, op := .ext (.t 35) 0 },
  { dst := some 39, op := .ext (.t 35) 1 },
  { dst := some 40, op := .ext (.t 35) 2 },
  { dst := some 5, op := .move (.t 38) },
  { dst := some 6, op := .move (.t 39) },
  { dst := some 7, op := .move (.t 40) }])
 (.seq (.region [{ dst := some 41, op := .move (.t 5) },
  { dst := some 42, op := .faddr 3 (.t 2) },
  { dst := none, op := .store 1 (.t 42) (.t 41) }])
 (.seq (.region [{ dst := some 43, op := .load true 5 (.t 2) },
  { dst := some 44, op := .move (.t 7) },
  { dst := some 45, op := .bin .eql (.t 44) (.c (.v (.int .i64 0))) },
  { dst := none, op := .store 5 (.t 2) (.t 43) },
  { dst := some 3, op := .move (.t 45) }])
 .ret))) .skip))
 (.seq (.region [{ dst := some 47, op := .move (.t 0) },
  { dst := some 48, op := .call 205 [(.t 47), (.c (.v (.int .i64 1)))] },
  { dst := some 46, op := .move (.t 48) },
  { dst := some 49, op := .ext (.t 46) 0 },
  { dst := some 50, op := .ext (.t 46) 1 },
  { dst := some 51, op := .ext (.t 46) 2 },
  { dst := some 4, op := .move (.t 49) },
  { dst := some 0, op := .move (.t 50) },
  { dst := some 3, op := .move (.t 51) }])
 (.seq (.seq (.region [{ dst := some 52, op := .move (.t 3) },
  { dst := some 53, op := .un .not (.t 52) },
  { dst := some 54, op := .move (.t 53) },
  { dst := some 55, op := .move (.t 4), guard := some (54, false) },
  { dst := some 56, op := .iaddr 1 (.t 55) (.c (.v (.int .i64 0))), guard := some (54, false) },
  { dst := some 57, op := .load false 1 (.t 56), guard := some (54, false) },
  { dst := some 58, op := .bin .gtr (.t 57) (.c (.v (.int .i64 8))), guard := some (54, false) },
  { dst := some 59, op := .pick (.t 54) (.c (.v (.bool true))) (.t 58) }])
 (.cond (.t 59) (.seq (.region [{ dst := some 60, op := .load true 5 (.t 2) },
  { dst := none, op := .store 5 (.t 2) (.t 60) },
  { dst := some 3, op := .move (.c (.v (.bool false))) }])
 .ret) .skip))
 (.seq (.seq (.region [{ dst := some 61, op := .move (.t 4) },
  { dst := some 62, op := .iaddr 1 (.t 61) (.c (.v (.int .i64 0))) },
  { dst := some 63, op := .load false 1 (.t 62) },
  { dst := some 64, op := .move (.c (.v (.int .i64 0))) }])
 (.block 0 (.loop (.seq (.region [{ dst := some 65, op := .bin .lss (.t 64) (.t 63) }])
 (.seq (.cond (.t 65) .skip (.exit 0))
 (.seq (.block 1 (.seq (.region [{ dst := some 67, op := .move (.t 0) },
  { dst := some 68, op := .call 169 [(.t 67)] },
  { dst := some 66, op := .move (.t 68) },
  { dst := some 69, op := .ext (.t 66) 0 },
  { dst := some 70, op := .ext (.t 66) 1 },
  { dst := some 71, op := .ext (.t 66) 2 },
  { dst := some 8, op := .alloc 75 [.v (.int .i64 0), .v (.int .i64 0), .v (.int .i64 0), .v (.slice none 0 0), .v (.int .i64 0), .v (.int .i64 0), .v (.int .i64 0), .v (.int .i64 0), .v (.int .i64 0), .v (.string ⟨#[]⟩), .v (.int .i64 0), .v (.int .i64 0)] },
  { dst := none, op := .store 12 (.t 8) (.t 69) },
  { dst := some 9, op := .move (.t 70) },
  { dst := some 10, op := .move (.t 71) }])
 (.seq (.seq (.region [{ dst := some 72, op := .move (.t 10) },
  { dst := some 73, op := .bin .neq (.t 72) (.c (.v (.int .i64 0))) }])
 (.cond (.t 73) (.seq (.region [{ dst := some 74, op := .load true 5 (.t 2) },
  { dst := none, op := .store 5 (.t 2) (.t 74) },
  { dst := some 3, op := .move (.c (.v (.bool false))) }])
 .ret) .skip))
 (.dregion [{ dst := some 75, op := .faddr 4 (.t 2) },
  { dst := some 76, op := .load false 1 (.t 75) },
  { dst := some 77, op := .load true 12 (.t 8) },
  { dst := some 78, op := .buildSlice 75 12 1 [.v (.int .i64 0), .v (.int .i64 0), .v (.int .i64 0), .v (.slice none 0 0), .v (.int .i64 0), .v (.int .i64 0), .v (.int .i64 0), .v (.int .i64 0), .v (.int .i64 0), .v (.string ⟨#[]⟩), .v (.int .i64 0), .v (.int .i64 0)] [(0, 12, (.t 77))], un := [1] },
  { dst := some 79, op := .append 75 12 120 (.t 76) (.t 78) },
  { dst := some 80, op := .move (.t 0) },
  { dst := some 81, op := .move (.t 9) },
  { dst := some 82, op := .slice 1 (.t 80) (some (.t 81)) none none },
  { dst := some 83, op := .faddr 4 (.t 2) },
  { dst := none, op := .store 1 (.t 83) (.t 79) },
  { dst := some 0, op := .move (.t 82) }]))))
 (.region [{ dst := some 84, op := .bin .add (.t 64) (.c (.v (.int .i64 1))) },
  { dst := some 64, op := .move (.t 84) }])))))))
 (.seq (.region [{ dst := some 85, op := .load true 5 (.t 2) },
  { dst := none, op := .store 5 (.t 2) (.t 85) },
  { dst := some 3, op := .move (.c (.v (.bool true))) }])
 .ret)))))))))⟩
/-- arras.frame.May -/
def F155 : AFun := ⟨true, 52, [.t 2], (.seq (.region [{ dst := some 1, op := .box 67 5 (.t 0) },
  { dst := some 2, op := .move (.c (.v (.bool false))) }])
 (.seq (.seq (.region [{ dst := some 3, op := .faddr 0 (.t 1) },
  { dst := some 4, op := .load false 1 (.t 3) },
  { dst := some 5, op := .bin .lss (.t 4) (.c (.v (.int .i64 0))) },
  { dst := some 6, op := .move (.t 5) },
  { dst := some 7, op := .faddr 0 (.t 1), guard := some (6, false) },
  { dst := some 8, op := .load false 1 (.t 7), guard := some (6, false) },
  { dst := some 9, op := .bin .geq (.t 8) (.c (.v (.int .i64 16))), guard := some (6, false) },
  { dst := some 10, op := .pick (.t 6) (.c (.v (.bool true))) (.t 9) },
  { dst := some 11, op := .move (.t 10) },
  { dst := some 12, op := .faddr 1 (.t 1), guard := some (11, false) },
  { dst := some 13, op := .load false 1 (.t 12), guard := some (11, false) },
  { dst := some 14, op := .bin .lss (.t 13) (.c (.v (.int .i64 0))), guard := some (11, false) },
  { dst := some 15, op := .pick (.t 11) (.c (.v (.bool true))) (.t 14) },
  { dst := some 16, op := .move (.t 15) },
  { dst := some 17, op := .faddr 1 (.t 1), guard := some (16, false) },
  { dst := some 18, op := .load false 1 (.t 17), guard := some (16, false) },
  { dst := some 19, op := .bin .geq (.t 18) (.c (.v (.int .i64 16))), guard := some (16, false) },
  { dst := some 20, op := .pick (.t 16) (.c (.v (.bool true))) (.t 19) },
  { dst := some 21, op := .move (.t 20) },
  { dst := some 22, op := .faddr 0 (.t 1), guard := some (21, false) },
  { dst := some 23, op := .load false 1 (.t 22), guard := some (21, false) },
  { dst := some 24, op := .faddr 1 (.t 1), guard := some (21, false) },
  { dst := some 25, op := .load false 1 (.t 24), guard := some (21, false) },
  { dst := some 26, op := .bin .eql (.t 23) (.t 25), guard := some (21, false) },
  { dst := some 27, op := .pick (.t 21) (.c (.v (.bool true))) (.t 26) }])
 (.cond (.t 27) (.seq (.region [{ dst := some 2, op := .move (.c (.v (.bool false))) }])
 .ret) .skip))
 (.seq (.seq (.region [{ dst := some 28, op := .faddr 2 (.t 1) },
  { dst := some 29, op := .load false 1 (.t 28) }])
 (.block 0 (.seq (.region [{ dst := some 31, op := .bin .eql (.t 29) (.c (.v (.int .i64 1))) },
  { dst := some 30, op := .move (.t 31) }])
 (.cond (.t 30) (.seq (.region [{ dst := some 32, op := .faddr 3 (.t 1) },
  { dst := some 33, op := .load false 1 (.t 32) },
  { dst := some 34, op := .call 76 [(.t 33)] },
  { dst := some 35, op := .move (.t 34) },
  { dst := some 36, op := .faddr 4 (.t 1), guard := some (35, true) },
  { dst := some 37, op := .load false 1 (.t 36), guard := some (35, true) },
  { dst := some 38, op := .len (.t 37), guard := some (35, true) },
  { dst := some 39, op := .bin .eql (.t 38) (.c (.v (.int .i64 0))), guard := some (35, true) },
  { dst := some 40, op := .pick (.t 35) (.t 39) (.c (.v (.bool false))) },
  { dst := some 2, op := .move (.t 40) }])
 .ret) (.seq (.region [{ dst := some 42, op := .bin .eql (.t 29) (.c (.v (.int .i64 2))) },
  { dst := some 41, op := .move (.t 42) }])
 (.cond (.t 41) (.seq (.region [{ dst := some 43, op := .faddr 3 (.t 1) },
  { dst := some 44, op := .load false 1 (.t 43) },
  { dst := some 45, op := .len (.t 44) },
  { dst := some 46, op := .bin .eql (.t 45) (.c (.v (.int .i64 0))) },
  { dst := some 47, op := .move (.t 46) },
  { dst := some 48, op := .faddr 4 (.t 1), guard := some (47, true) },
  { dst := some 49, op := .load false 1 (.t 48), guard := some (47, true) },
  { dst := some 50, op := .call 207 [(.t 49)], guard := some (47, true) },
  { dst := some 51, op := .pick (.t 47) (.t 50) (.c (.v (.bool false))) },
  { dst := some 2, op := .move (.t 51) }])
 .ret) .skip))))))
 (.seq (.region [{ dst := some 2, op := .move (.c (.v (.bool false))) }])
 .ret))))⟩
/-- bytes.Equal -/
def F156 : AFun := ⟨true, 10, [.t 4], (.seq (.region [{ dst := some 4, op := .move (.c (.v (.bool false))) }])
 (.seq (.region [{ dst := some 5, op := .move (.t 0) },
  { dst := some 6, op := .b2s (.t 5) },
  { dst := some 7, op := .move (.t 1) },
  { dst := some 8, op := .b2s (.t 7) },
  { dst := some 9, op := .bin .eql (.t 6) (.t 8) },
  { dst := some 4, op := .move (.t 9) }])
 .ret))⟩
/-- arras.replica.strange$1 -/
def F157 : AFun := ⟨true, 9, [.t 3], (.seq (.region [{ dst := some 2, op := .box 75 12 (.t 0) },
  { dst := some 3, op := .move (.c (.v (.bool false))) }])
 (.seq (.region [{ dst := some 4, op := .faddr 3 (.t 2) },
  { dst := some 5, op := .load false 1 (.t 4) },
  { dst := some 6, op := .len (.t 5) },
  { dst := some 7, op := .load false 1 (.t 1) },
  { dst := some 8, op := .bin .neq (.t 6) (.t 7) },
  { dst := some 3, op := .move (.t 8) }])
 .ret))⟩
/-- arras.sync.may -/
def F158 : AFun := ⟨true, 30, [.t 4], (.seq (.region [{ dst := some 4, op := .move (.c (.v (.bool false))) }])
 (.scope (.seq (.region [{ dst := some 5, op := .move (.c (.v (.int .i64 0))) }])
 (.seq (.label 0)
 (.seq (.seq (.region [{ dst := some 6, op := .move (.t 5) },
  { dst := some 7, op := .move (.t 0) },
  { dst := some 8, op := .len (.t 7) },
  { dst := some 9, op := .bin .eql (.t 6) (.t 8) }])
 (.cond (.t 9) (.seq (.region [{ dst := some 10, op := .move (.t 1) },
  { dst := some 11, op := .call 76 [(.t 10)] },
  { dst := some 4, op := .move (.t 11) }])
 .ret) .skip))
 (.seq (.seq (.region [{ dst := some 12, op := .move (.t 0) },
  { dst := some 13, op := .move (.t 5) },
  { dst := some 14, op := .iaddr 12 (.t 12) (.t 13) },
  { dst := some 15, op := .load true 12 (.t 14) },
  { dst := some 16, op := .call 85 [(.t 15)] },
  { dst := some 17, op := .move (.t 16) },
  { dst := some 18, op := .move (.t 0), guard := some (17, true) },
  { dst := some 19, op := .move (.t 5), guard := some (17, true) },
  { dst := some 20, op := .iaddr 12 (.t 18) (.t 19), guard := some (17, true) },
  { dst := some 21, op := .faddr 3 (.t 20), guard := some (17, true) },
  { dst := some 22, op := .load false 1 (.t 21), guard := some (17, true) },
  { dst := some 23, op := .len (.t 22), guard := some (17, true) },
  { dst := some 24, op := .move (.t 1), guard := some (17, true) },
  { dst := some 25, op := .len (.t 24), guard := some (17, true) },
  { dst := some 26, op := .bin .eql (.t 23) (.t 25), guard := some (17, true) },
  { dst := some 27, op := .pick (.t 17) (.t 26) (.c (.v (.bool false))) }])
 (.cond (.t 27) (.seq (.region [{ dst := some 28, op := .move (.t 5) },
  { dst := some 29, op := .bin .add (.t 28) (.c (.v (.int .i64 1))) },
  { dst := some 5, op := .move (.t 29) }])
 (.goto 0)) .skip))
 (.seq (.region [{ dst := some 4, op := .move (.c (.v (.bool false))) }])
 .ret))))) (.seq (.region [{ dst := some 5, op := .move (.c (.v (.int .i64 0))) }])
 (.seq (.label 0)
 (.seq (.seq (.region [{ dst := some 6, op := .move (.t 5) },
  { dst := some 7, op := .move (.t 0) },
  { dst := some 8, op := .len (.t 7) },
  { dst := some 9, op := .bin .eql (.t 6) (.t 8) }])
 (.cond (.t 9) (.seq (.region [{ dst := some 10, op := .move (.t 1) },
  { dst := some 11, op := .call 76 [(.t 10)] },
  { dst := some 4, op := .move (.t 11) }])
 .ret) .skip))
 (.seq (.seq (.region [{ dst := some 12, op := .move (.t 0) },
  { dst := some 13, op := .move (.t 5) },
  { dst := some 14, op := .iaddr 12 (.t 12) (.t 13) },
  { dst := some 15, op := .load true 12 (.t 14) },
  { dst := some 16, op := .call 85 [(.t 15)] },
  { dst := some 17, op := .move (.t 16) },
  { dst := some 18, op := .move (.t 0), guard := some (17, true) },
  { dst := some 19, op := .move (.t 5), guard := some (17, true) },
  { dst := some 20, op := .iaddr 12 (.t 18) (.t 19), guard := some (17, true) },
  { dst := some 21, op := .faddr 3 (.t 20), guard := some (17, true) },
  { dst := some 22, op := .load false 1 (.t 21), guard := some (17, true) },
  { dst := some 23, op := .len (.t 22), guard := some (17, true) },
  { dst := some 24, op := .move (.t 1), guard := some (17, true) },
  { dst := some 25, op := .len (.t 24), guard := some (17, true) },
  { dst := some 26, op := .bin .eql (.t 23) (.t 25), guard := some (17, true) },
  { dst := some 27, op := .pick (.t 17) (.t 26) (.c (.v (.bool false))) }])
 (.cond (.t 27) (.seq (.region [{ dst := some 28, op := .move (.t 5) },
  { dst := some 29, op := .bin .add (.t 28) (.c (.v (.int .i64 1))) },
  { dst := some 5, op := .move (.t 29) }])
 (.goto 0)) .skip))
 (.seq (.region [{ dst := some 4, op := .move (.c (.v (.bool false))) }])
 .ret)))))))⟩
/-- arras.sync.Behind -/
def F159 : AFun := ⟨false, 34, [.t 4], (.seq (.region [{ dst := some 4, op := .move (.c (.v (.slice none 0 0))) }])
 (.seq (.seq (.region [{ dst := some 7, op := .move (.t 0) },
  { dst := some 8, op := .len (.t 7) },
  { dst := some 9, op := .move (.c (.v (.int .i64 0))) }])
 (.block 0 (.loop (.seq (.region [{ dst := some 10, op := .bin .lss (.t 9) (.t 8) }])
 (.seq (.cond (.t 10) .skip (.exit 0))
 (.seq (.block 1 (.seq (.region [{ dst := some 11, op := .iaddr 12 (.t 7) (.t 9) },
  { dst := some 12, op := .load true 12 (.t 11) },
  { dst := some 6, op := .alloc 75 [.v (.int .i64 0), .v (.int .i64 0), .v (.int .i64 0), .v (.slice none 0 0), .v (.int .i64 0), .v (.int .i64 0), .v (.int .i64 0), .v (.int .i64 0), .v (.int .i64 0), .v (.string ⟨#[]⟩), .v (.int .i64 0), .v (.int .i64 0)] },
  { dst := none, op := .store 12 (.t 6) (.t 12) }])
 (.seq (.dregion [{ dst := some 13, op := .faddr 2 (.t 6) },
  { dst := some 14, op := .load false 1 (.t 13) },
  { dst := some 15, op := .move (.t 1) },
  { dst := some 16, op := .faddr 0 (.t 6) },
  { dst := some 17, op := .faddr 1 (.t 16) },
  { dst := some 18, op := .load false 1 (.t 17) },
  { dst := some 19, op := .iaddr 1 (.t 15) (.t 18) },
  { dst := some 20, op := .load false 1 (.t 19) },
  { dst := some 21, op := .bin .gtr (.t 14) (.t 20) },
  { dst := some 22, op := .move (.t 21) },
  { dst := some 23, op := .move (.t 4), guard := some (22, true) },
  { dst := some 24, op := .len (.t 23), guard := some (22, true) },
  { dst := some 25, op := .bin .lss (.t 24) (.c (.v (.int .i64 8))), guard := some (22, true) },
  { dst := some 26, op := .pick (.t 22) (.t 25) (.c (.v (.bool false))) }])
 (.cond (.t 26) (.region [{ dst := some 27, op := .move (.t 4) },
  { dst := some 28, op := .load true 12 (.t 6) },
  { dst := some 29, op := .call 143 [(.t 28)] },
  { dst := some 30, op := .buildSlice 75 12 1 [.v (.int .i64 0), .v (.int .i64 0), .v (.int .i64 0), .v (.slice none 0 0), .v (.int .i64 0), .v (.int .i64 0), .v (.int .i64 0), .v (.int .i64 0), .v (.int .i64 0), .v (.string ⟨#[]⟩), .v (.int .i64 0), .v (.int .i64 0)] [(0, 12, (.t 29))] },
  { dst := some 31, op := .append 75 12 120 (.t 27) (.t 30) },
  { dst := some 4, op := .move (.t 31) }]) .skip))))
 (.region [{ dst := some 32, op := .bin .add (.t 9) (.c (.v (.int .i64 1))) },
  { dst := some 9, op := .move (.t 32) }])))))))
 (.seq (.region [{ dst := some 33, op := .move (.t 4) },
  { dst := some 4, op := .move (.t 33) }])
 .ret)))⟩
/-- arras.code.Put -/
def F160 : AFun := ⟨false, 20, [.t 4], (.seq (.region [{ dst := some 4, op := .move (.c (.v (.slice none 0 0))) }])
 (.scope (.seq (.label 0)
 (.seq (.seq (.region [{ dst := some 5, op := .move (.t 1) },
  { dst := some 6, op := .bin .geq (.t 5) (.c (.v (.int .i64 128))) }])
 (.cond (.t 6) (.seq (.region [{ dst := some 7, op := .move (.t 0) },
  { dst := some 8, op := .move (.t 1) },
  { dst := some 9, op := .conv .u8 (.t 8) },
  { dst := some 10, op := .bin .or (.t 9) (.c (.v (.int .u8 128))) },
  { dst := some 11, op := .buildSlice 5 1 1 [.v (.int .u8 0)] [(0, 1, (.t 10))] },
  { dst := some 12, op := .append 5 1 1 (.t 7) (.t 11) },
  { dst := some 0, op := .move (.t 12) }])
 (.seq (.region [{ dst := some 13, op := .move (.t 1) },
  { dst := some 14, op := .bin .shr (.t 13) (.c (.v (.int .u64 7))) },
  { dst := some 1, op := .move (.t 14) }])
 (.goto 0))) .skip))
 (.seq (.region [{ dst := some 15, op := .move (.t 0) },
  { dst := some 16, op := .move (.t 1) },
  { dst := some 17, op := .conv .u8 (.t 16) },
  { dst := some 18, op := .buildSlice 5 1 1 [.v (.int .u8 0)] [(0, 1, (.t 17))] },
  { dst := some 19, op := .append 5 1 1 (.t 15) (.t 18) },
  { dst := some 4, op := .move (.t 19) }])
 .ret))) (.seq (.label 0)
 (.seq (.seq (.region [{ dst := some 5, op := .move (.t 1) },
  { dst := some 6, op := .bin .geq (.t 5) (.c (.v (.int .i64 128))) }])
 (.cond (.t 6) (.seq (.region [{ dst := some 7, op := .move (.t 0) },
  { dst := some 8, op := .move (.t 1) },
  { dst := some 9, op := .conv .u8 (.t 8) },
  { dst := some 10, op := .bin .or (.t 9) (.c (.v (.int .u8 128))) },
  { dst := some 11, op := .buildSlice 5 1 1 [.v (.int .u8 0)] [(0, 1, (.t 10))] },
  { dst := some 12, op := .append 5 1 1 (.t 7) (.t 11) },
  { dst := some 0, op := .move (.t 12) }])
 (.seq (.region [{ dst := some 13, op := .move (.t 1) },
  { dst := some 14, op := .bin .shr (.t 13) (.c (.v (.int .u64 7))) },
  { dst := some 1, op := .move (.t 14) }])
 (.goto 0))) .skip))
 (.seq (.region [{ dst := some 15, op := .move (.t 0) },
  { dst := some 16, op := .move (.t 1) },
  { dst := some 17, op := .conv .u8 (.t 16) },
  { dst := some 18, op := .buildSlice 5 1 1 [.v (.int .u8 0)] [(0, 1, (.t 17))] },
  { dst := some 19, op := .append 5 1 1 (.t 15) (.t 18) },
  { dst := some 4, op := .move (.t 19) }])
 .ret)))))⟩
/-- arras.code.PutAll -/
def F161 : AFun := ⟨false, 22, [.t 4], (.seq (.region [{ dst := some 4, op := .move (.c (.v (.slice none 0 0))) }])
 (.seq (.region [{ dst := some 7, op := .move (.t 0) },
  { dst := some 8, op := .move (.t 1) },
  { dst := some 9, op := .len (.t 8) },
  { dst := some 10, op := .call 160 [(.t 7), (.t 9)] },
  { dst := some 0, op := .move (.t 10) }])
 (.seq (.seq (.region [{ dst := some 11, op := .move (.t 1) },
  { dst := some 12, op := .len (.t 11) },
  { dst := some 13, op := .move (.c (.v (.int .i64 0))) }])
 (.block 0 (.loop (.seq (.region [{ dst := some 14, op := .bin .lss (.t 13) (.t 12) }])
 (.seq (.cond (.t 14) .skip (.exit 0))
 (.seq (.block 1 (.seq (.region [{ dst := some 15, op := .iaddr 1 (.t 11) (.t 13) },
  { dst := some 16, op := .load false 1 (.t 15) },
  { dst := some 6, op := .move (.t 16) }])
 (.region [{ dst := some 17, op := .move (.t 0) },
  { dst := some 18, op := .move (.t 6) },
  { dst := some 19, op := .call 160 [(.t 17), (.t 18)] },
  { dst := some 0, op := .move (.t 19) }])))
 (.region [{ dst := some 20, op := .bin .add (.t 13) (.c (.v (.int .i64 1))) },
  { dst := some 13, op := .move (.t 20) }])))))))
 (.seq (.region [{ dst := some 21, op := .move (.t 0) },
  { dst := some 4, op := .move (.t 21) }])
 .ret))))⟩
/-- arras.op.Put -/
def F162 : AFun := ⟨false, 37, [.t 4], (.seq (.region [{ dst := some 3, op := .box 75 12 (.t 1) },
  { dst := some 4, op := .move (.c (.v (.slice none 0 0))) }])
 (.seq (.dregion [{ dst := some 5, op := .move (.t 0) },
  { dst := some 6, op := .faddr 0 (.t 3) },
  { dst := some 7, op := .load true 2 (.t 6) },
  { dst := some 8, op := .call 208 [(.t 5), (.t 7)] },
  { dst := some 9, op := .faddr 3 (.t 3) },
  { dst := some 10, op := .load false 1 (.t 9), un := [3] },
  { dst := some 11, op := .call 161 [(.t 8), (.t 10)] },
  { dst := some 0, op := .move (.t 11) }])
 (.seq (.dregion [{ dst := some 12, op := .move (.t 0) },
  { dst := some 13, op := .faddr 4 (.t 3) },
  { dst := some 14, op := .load false 1 (.t 13) },
  { dst := some 15, op := .call 160 [(.t 12), (.t 14)] },
  { dst := some 16, op := .faddr 5 (.t 3) },
  { dst := some 17, op := .load true 2 (.t 16), un := [3] },
  { dst := some 18, op := .call 208 [(.t 15), (.t 17)] },
  { dst := some 0, op := .move (.t 18) }])
 (.seq (.seq (.region [{ dst := some 19, op := .faddr 4 (.t 3) },
  { dst := some 20, op := .load false 1 (.t 19) },
  { dst := some 21, op := .bin .eql (.t 20) (.c (.v (.int .i64 1))) }])
 (.cond (.t 21) (.seq (.dregion [{ dst := some 22, op := .move (.t 0) },
  { dst := some 23, op := .faddr 7 (.t 3) },
  { dst := some 24, op := .load true 2 (.t 23) },
  { dst := some 25, op := .call 208 [(.t 22), (.t 24)] },
  { dst := some 26, op := .faddr 9 (.t 3) },
  { dst := some 27, op := .load false 1 (.t 26), un := [3] },
  { dst := some 28, op := .call 209 [(.t 25), (.t 27)] },
  { dst := some 4, op := .move (.t 28) }])
 .ret) .skip))
 (.seq (.dregion [{ dst := some 29, op := .move (.t 0) },
  { dst := some 30, op := .faddr 10 (.t 3) },
  { dst := some 31, op := .load false 1 (.t 30) },
  { dst := some 32, op := .call 160 [(.t 29), (.t 31)] },
  { dst := some 33, op := .faddr 11 (.t 3) },
  { dst := some 34, op := .load false 1 (.t 33), un := [3] },
  { dst := some 35, op := .bin .add (.t 34) (.c (.v (.int .i64 1))) },
  { dst := some 36, op := .call 160 [(.t 32), (.t 35)] },
  { dst := some 4, op := .move (.t 36) }])
 .ret)))))⟩
/-- arras.hold.Let -/
def F163 : AFun := ⟨false, 74, [.t 6, .t 7, .t 8, .t 9], (.seq (.region [{ dst := some 3, op := .box 22 1 (.t 0) },
  { dst := some 5, op := .box 75 12 (.t 2) },
  { dst := some 6, op := .move (.c (.v (.slice none 0 0))) },
  { dst := some 7, op := .move (.c (.v (.slice none 0 0))) },
  { dst := some 8, op := .move (.c (.v (.slice none 0 0))) },
  { dst := some 9, op := .move (.c (.v (.int .i64 0))) }])
 (.scope (.seq (.region [{ dst := some 10, op := .move (.c (.v (.int .i64 0))) }])
 (.seq (.seq (.dregion [{ dst := some 11, op := .load false 1 (.t 3) },
  { dst := some 12, op := .faddr 0 (.t 5) },
  { dst := some 13, op := .faddr 1 (.t 12) },
  { dst := some 14, op := .load false 1 (.t 13) },
  { dst := some 15, op := .iaddr 1 (.t 11) (.t 14) },
  { dst := some 16, op := .load false 1 (.t 15) },
  { dst := some 17, op := .faddr 2 (.t 5) },
  { dst := some 18, op := .load false 1 (.t 17) },
  { dst := some 19, op := .bin .geq (.t 16) (.t 18) },
  { dst := some 20, op := .move (.t 19) },
  { dst := some 21, op := .move (.t 1), guard := some (20, false) },
  { dst := some 22, op := .mkfn 210 [(.t 5)], guard := some (20, false) },
  { dst := some 23, op := .call 131 [(.t 21), (.t 22)], guard := some (20, false) },
  { dst := some 24, op := .pick (.t 20) (.c (.v (.bool true))) (.t 23) }])
 (.cond (.t 24) (.seq (.region [{ dst := some 25, op := .load false 1 (.t 3) },
  { dst := some 26, op := .move (.t 1) },
  { dst := some 6, op := .move (.t 25) },
  { dst := some 7, op := .move (.t 26) },
  { dst := some 8, op := .move (.c (.v (.slice none 0 0))) },
  { dst := some 9, op := .move (.c (.v (.int .i64 0))) }])
 .ret) .skip))
 (.seq (.seq (.region [{ dst := some 27, op := .load false 1 (.t 3) },
  { dst := some 28, op := .load true 12 (.t 5) },
  { dst := some 29, op := .call 86 [(.t 27), (.t 28)] },
  { dst := some 30, op := .un .not (.t 29) }])
 (.cond (.t 30) (.seq (.region [{ dst := some 32, op := .move (.t 1) },
  { dst := some 33, op := .load true 12 (.t 5) },
  { dst := some 34, op := .call 211 [(.t 32), (.t 33)] },
  { dst := some 31, op := .move (.t 34) },
  { dst := some 35, op := .ext (.t 31) 0 },
  { dst := some 36, op := .ext (.t 31) 1 },
  { dst := some 1, op := .move (.t 35) },
  { dst := some 9, op := .move (.t 36) }])
 (.seq (.seq (.region [{ dst := some 37, op := .move (.t 9) },
  { dst := some 38, op := .bin .neq (.t 37) (.c (.v (.int .i64 0))) }])
 (.cond (.t 38) (.seq (.region [{ dst := some 39, op := .move (.t 9) },
  { dst := some 6, op := .move (.c (.v (.slice none 0 0))) },
  { dst := some 7, op := .move (.c (.v (.slice none 0 0))) },
  { dst := some 8, op := .move (.c (.v (.slice none 0 0))) },
  { dst := some 9, op := .move (.t 39) }])
 .ret) .skip))
 (.seq (.region [{ dst := some 40, op := .load false 1 (.t 3) },
  { dst := some 41, op := .move (.t 1) },
  { dst := some 6, op := .move (.t 40) },
  { dst := some 7, op := .move (.t 41) },
  { dst := some 8, op := .move (.c (.v (.slice none 0 0))) },
  { dst := some 9, op := .move (.c (.v (.int .i64 0))) }])
 .ret))) .skip))
 (.seq (.label 0)
 (.seq (.region [{ dst := some 42, op := .load false 1 (.t 3) },
  { dst := some 43, op := .faddr 0 (.t 5) },
  { dst := some 44, op := .faddr 1 (.t 43) },
  { dst := some 45, op := .load false 1 (.t 44) },
  { dst := some 46, op := .faddr 2 (.t 5) },
  { dst := some 47, op := .load false 1 (.t 46) },
  { dst := some 48, op := .iaddr 1 (.t 42) (.t 45) },
  { dst := none, op := .store 1 (.t 48) (.t 47) }])
 (.seq (.region [{ dst := some 49, op := .move (.t 8) },
  { dst := some 50, op := .load true 12 (.t 5) },
  { dst := some 51, op := .call 143 [(.t 50)] },
  { dst := some 52, op := .buildSlice 75 12 1 [.v (.int .i64 0), .v (.int .i64 0), .v (.int .i64 0), .v (.slice none 0 0), .v (.int .i64 0), .v (.int .i64 0), .v (.int .i64 0), .v (.int .i64 0), .v (.int .i64 0), .v (.string ⟨#[]⟩), .v (.int .i64 0), .v (.int .i64 0)] [(0, 12, (.t 51))] },
  { dst := some 53, op := .append 75 12 120 (.t 49) (.t 52) },
  { dst := some 8, op := .move (.t 53) }])
 (.seq (.seq (.region [{ dst := some 54, op := .move (.t 1) },
  { dst := some 55, op := .mkfn 212 [(.t 3)] },
  { dst := some 56, op := .call 179 [(.t 54), (.t 55)] },
  { dst := some 10, op := .move (.t 56) }])
 (.seq (.region [{ dst := some 57, op := .move (.t 10) },
  { dst := some 58, op := .bin .geq (.t 57) (.c (.v (.int .i64 0))) }])
 (.cond (.t 58) (.seq (.region [{ dst := some 59, op := .move (.t 1) },
  { dst := some 60, op := .move (.t 10) },
  { dst := some 61, op := .iaddr 12 (.t 59) (.t 60) },
  { dst := some 62, op := .load true 12 (.t 61) },
  { dst := none, op := .store 12 (.t 5) (.t 62) }])
 (.seq (.region [{ dst := some 63, op := .move (.t 1) },
  { dst := some 64, op := .move (.t 10) },
  { dst := some 65, op := .move (.t 10) },
  { dst := some 66, op := .bin .add (.t 65) (.c (.v (.int .i64 1))) },
  { dst := some 67, op := .call 213 [(.t 63), (.t 64), (.t 66)] },
  { dst := some 1, op := .move (.t 67) }])
 (.goto 0))) .skip)))
 (.seq (.region [{ dst := some 68, op := .move (.t 1) },
  { dst := some 69, op := .mkfn 215 [(.t 3)] },
  { dst := some 70, op := .call 214 [(.t 68), (.t 69)] },
  { dst := some 1, op := .move (.t 70) }])
 (.seq (.region [{ dst := some 71, op := .load false 1 (.t 3) },
  { dst := some 72, op := .move (.t 1) },
  { dst := some 73, op := .move (.t 8) },
  { dst := some 6, op := .move (.t 71) },
  { dst := some 7, op := .move (.t 72) },
  { dst := some 8, op := .move (.t 73) },
  { dst := some 9, op := .move (.c (.v (.int .i64 0))) }])
 .ret))))))))) (.seq (.region [{ dst := some 10, op := .move (.c (.v (.int .i64 0))) }])
 (.seq (.seq (.dregion [{ dst := some 11, op := .load false 1 (.t 3) },
  { dst := some 12, op := .faddr 0 (.t 5) },
  { dst := some 13, op := .faddr 1 (.t 12) },
  { dst := some 14, op := .load false 1 (.t 13) },
  { dst := some 15, op := .iaddr 1 (.t 11) (.t 14) },
  { dst := some 16, op := .load false 1 (.t 15) },
  { dst := some 17, op := .faddr 2 (.t 5) },
  { dst := some 18, op := .load false 1 (.t 17) },
  { dst := some 19, op := .bin .geq (.t 16) (.t 18) },
  { dst := some 20, op := .move (.t 19) },
  { dst := some 21, op := .move (.t 1), guard := some (20, false) },
  { dst := some 22, op := .mkfn 210 [(.t 5)], guard := some (20, false) },
  { dst := some 23, op := .call 131 [(.t 21), (.t 22)], guard := some (20, false) },
  { dst := some 24, op := .pick (.t 20) (.c (.v (.bool true))) (.t 23) }])
 (.cond (.t 24) (.seq (.region [{ dst := some 25, op := .load false 1 (.t 3) },
  { dst := some 26, op := .move (.t 1) },
  { dst := some 6, op := .move (.t 25) },
  { dst := some 7, op := .move (.t 26) },
  { dst := some 8, op := .move (.c (.v (.slice none 0 0))) },
  { dst := some 9, op := .move (.c (.v (.int .i64 0))) }])
 .ret) .skip))
 (.seq (.seq (.region [{ dst := some 27, op := .load false 1 (.t 3) },
  { dst := some 28, op := .load true 12 (.t 5) },
  { dst := some 29, op := .call 86 [(.t 27), (.t 28)] },
  { dst := some 30, op := .un .not (.t 29) }])
 (.cond (.t 30) (.seq (.region [{ dst := some 32, op := .move (.t 1) },
  { dst := some 33, op := .load true 12 (.t 5) },
  { dst := some 34, op := .call 211 [(.t 32), (.t 33)] },
  { dst := some 31, op := .move (.t 34) },
  { dst := some 35, op := .ext (.t 31) 0 },
  { dst := some 36, op := .ext (.t 31) 1 },
  { dst := some 1, op := .move (.t 35) },
  { dst := some 9, op := .move (.t 36) }])
 (.seq (.seq (.region [{ dst := some 37, op := .move (.t 9) },
  { dst := some 38, op := .bin .neq (.t 37) (.c (.v (.int .i64 0))) }])
 (.cond (.t 38) (.seq (.region [{ dst := some 39, op := .move (.t 9) },
  { dst := some 6, op := .move (.c (.v (.slice none 0 0))) },
  { dst := some 7, op := .move (.c (.v (.slice none 0 0))) },
  { dst := some 8, op := .move (.c (.v (.slice none 0 0))) },
  { dst := some 9, op := .move (.t 39) }])
 .ret) .skip))
 (.seq (.region [{ dst := some 40, op := .load false 1 (.t 3) },
  { dst := some 41, op := .move (.t 1) },
  { dst := some 6, op := .move (.t 40) },
  { dst := some 7, op := .move (.t 41) },
  { dst := some 8, op := .move (.c (.v (.slice none 0 0))) },
  { dst := some 9, op := .move (.c (.v (.int .i64 0))) }])
 .ret))) .skip))
 (.seq (.label 0)
 (.seq (.region [{ dst := some 42, op := .load false 1 (.t 3) },
  { dst := some 43, op := .faddr 0 (.t 5) },
  { dst := some 44, op := .faddr 1 (.t 43) },
  { dst := some 45, op := .load false 1 (.t 44) },
  { dst := some 46, op := .faddr 2 (.t 5) },
  { dst := some 47, op := .load false 1 (.t 46) },
  { dst := some 48, op := .iaddr 1 (.t 42) (.t 45) },
  { dst := none, op := .store 1 (.t 48) (.t 47) }])
 (.seq (.region [{ dst := some 49, op := .move (.t 8) },
  { dst := some 50, op := .load true 12 (.t 5) },
  { dst := some 51, op := .call 143 [(.t 50)] },
  { dst := some 52, op := .buildSlice 75 12 1 [.v (.int .i64 0), .v (.int .i64 0), .v (.int .i64 0), .v (.slice none 0 0), .v (.int .i64 0), .v (.int .i64 0), .v (.int .i64 0), .v (.int .i64 0), .v (.int .i64 0), .v (.string ⟨#[]⟩), .v (.int .i64 0), .v (.int .i64 0)] [(0, 12, (.t 51))] },
  { dst := some 53, op := .append 75 12 120 (.t 49) (.t 52) },
  { dst := some 8, op := .move (.t 53) }])
 (.seq (.seq (.region [{ dst := some 54, op := .move (.t 1) },
  { dst := some 55, op := .mkfn 212 [(.t 3)] },
  { dst := some 56, op := .call 179 [(.t 54), (.t 55)] },
  { dst := some 10, op := .move (.t 56) }])
 (.seq (.region [{ dst := some 57, op := .move (.t 10) },
  { dst := some 58, op := .bin .geq (.t 57) (.c (.v (.int .i64 0))) }])
 (.cond (.t 58) (.seq (.region [{ dst := some 59, op := .move (.t 1) },
  { dst := some 60, op := .move (.t 10) },
  { dst := some 61, op := .iaddr 12 (.t 59) (.t 60) },
  { dst := some 62, op := .load true 12 (.t 61) },
  { dst := none, op := .store 12 (.t 5) (.t 62) }])
 (.seq (.region [{ dst := some 63, op := .move (.t 1) },
  { dst := some 64, op := .move (.t 10) },
  { dst := some 65, op := .move (.t 10) },
  { dst := some 66, op := .bin .add (.t 65) (.c (.v (.int .i64 1))) },
  { dst := some 67, op := .call 213 [(.t 63), (.t 64), (.t 66)] },
  { dst := some 1, op := .move (.t 67) }])
 (.goto 0))) .skip)))
 (.seq (.region [{ dst := some 68, op := .move (.t 1) },
  { dst := some 69, op := .mkfn 215 [(.t 3)] },
  { dst := some 70, op := .call 214 [(.t 68), (.t 69)] },
  { dst := some 1, op := .move (.t 70) }])
 (.seq (.region [{ dst := some 71, op := .load false 1 (.t 3) },
  { dst := some 72, op := .move (.t 1) },
  { dst := some 73, op := .move (.t 8) },
  { dst := some 6, op := .move (.t 71) },
  { dst := some 7, op := .move (.t 72) },
  { dst := some 8, op := .move (.t 73) },
  { dst := some 9, op := .move (.c (.v (.int .i64 0))) }])
 .ret)))))))))))⟩
/-- arras.arrasref6.Take -/
def F164 : AFun := ⟨true, 45, [.cell 2 true 2, .t 3, .t 4], (.seq (.region [{ dst := some 2, op := .alloc 41 [.v (.int .i64 0), .v (.int .i64 0)] },
  { dst := some 3, op := .move (.c (.v (.int .i64 0))) },
  { dst := some 4, op := .move (.c (.v (.int .i64 0))) }])
 (.seq (.region [{ dst := some 13, op := .move (.t 0) },
  { dst := some 14, op := .call 102 [(.t 13)] },
  { dst := some 12, op := .move (.t 14) },
  { dst := some 15, op := .ext (.t 12) 0 },
  { dst := some 16, op := .ext (.t 12) 1 },
  { dst := some 17, op := .ext (.t 12) 2 },
  { dst := some 5, op := .move (.t 15) },
  { dst := some 6, op := .move (.t 16) },
  { dst := some 7, op := .move (.t 17) }])
 (.seq (.seq (.region [{ dst := some 18, op := .move (.t 7) },
  { dst := some 19, op := .bin .neq (.t 18) (.c (.v (.int .i64 0))) }])
 (.cond (.t 19) (.seq (.region [{ dst := some 20, op := .build [.v (.int .i64 0), .v (.int .i64 0)] [] },
  { dst := some 21, op := .move (.t 7) },
  { dst := none, op := .store 2 (.t 2) (.t 20) },
  { dst := some 3, op := .move (.c (.v (.int .i64 0))) },
  { dst := some 4, op := .move (.t 21) }])
 .ret) .skip))
 (.seq (.region [{ dst := some 23, op := .move (.t 0) },
  { dst := some 24, op := .move (.t 6) },
  { dst := some 25, op := .slice 1 (.t 23) (some (.t 24)) none none },
  { dst := some 26, op := .call 102 [(.t 25)] },
  { dst := some 22, op := .move (.t 26) },
  { dst := some 27, op := .ext (.t 22) 0 },
  { dst := some 28, op := .ext (.t 22) 1 },
  { dst := some 29, op := .ext (.t 22) 2 },
  { dst := some 8, op := .move (.t 27) },
  { dst := some 9, op := .move (.t 28) },
  { dst := some 10, op := .move (.t 29) }])
 (.seq (.seq (.region [{ dst := some 30, op := .move (.t 10) },
  { dst := some 31, op := .bin .neq (.t 30) (.c (.v (.int .i64 0))) }])
 (.cond (.t 31) (.seq (.region [{ dst := some 32, op := .build [.v (.int .i64 0), .v (.int .i64 0)] [] },
  { dst := some 33, op := .move (.t 10) },
  { dst := none, op := .store 2 (.t 2) (.t 32) },
  { dst := some 3, op := .move (.c (.v (.int .i64 0))) },
  { dst := some 4, op := .move (.t 33) }])
 .ret) .skip))
 (.seq (.region [{ dst := some 34, op := .move (.t 5) },
  { dst := some 35, op := .move (.t 8) },
  { dst := some 36, op := .build [.v (.int .i64 0), .v (.int .i64 0)] [(0, 1, (.t 34)), (1, 1, (.t 35))] },
  { dst := some 11, op := .alloc 41 [.v (.int .i64 0), .v (.int .i64 0)] },
  { dst := none, op := .store 2 (.t 11) (.t 36) }])
 (.seq (.seq (.region [{ dst := some 37, op := .load true 2 (.t 11) },
  { dst := some 38, op := .call 146 [(.t 37)] },
  { dst := some 39, op := .un .not (.t 38) }])
 (.cond (.t 39) (.seq (.region [{ dst := some 40, op := .build [.v (.int .i64 0), .v (.int .i64 0)] [] },
  { dst := none, op := .store 2 (.t 2) (.t 40) },
  { dst := some 3, op := .move (.c (.v (.int .i64 0))) },
  { dst := some 4, op := .move (.c (.v (.int .i64 1))) }])
 .ret) .skip))
 (.seq (.region [{ dst := some 41, op := .load true 2 (.t 11) },
  { dst := some 42, op := .move (.t 6) },
  { dst := some 43, op := .move (.t 9) },
  { dst := some 44, op := .bin .add (.t 42) (.t 43) },
  { dst := none, op := .store 2 (.t 2) (.t 41) },
  { dst := some 3, op := .move (.t 44) },
  { dst := some 4, op := .move (.c (.v (.int .i64 0))) }])
 .ret))))))))⟩
/-- arras.arrasref0.EqEntry -/
def F165 : AFun := ⟨true, 38, [.t 4], (.seq (.region [{ dst := some 2, op := .box 200 17 (.t 0) },
  { dst := some 3, op := .box 200 17 (.t 1) },
  { dst := some 4, op := .move (.c (.v (.bool false))) }])
 (.seq (.region [{ dst := some 5, op := .faddr 0 (.t 2) },
  { dst := some 6, op := .load true 12 (.t 5) },
  { dst := some 7, op := .faddr 0 (.t 3) },
  { dst := some 8, op := .load true 12 (.t 7) },
  { dst := some 9, op := .call 52 [(.t 6), (.t 8)] },
  { dst := some 10, op := .move (.t 9) },
  { dst := some 11, op := .faddr 12 (.t 2), guard := some (10, true) },
  { dst := some 12, op := .load false 1 (.t 11), guard := some (10, true) },
  { dst := some 13, op := .faddr 12 (.t 3), guard := some (10, true) },
  { dst := some 14, op := .load false 1 (.t 13), guard := some (10, true) },
  { dst := some 15, op := .beq false (.t 12) (.t 14), guard := some (10, true) },
  { dst := some 16, op := .pick (.t 10) (.t 15) (.c (.v (.bool false))) },
  { dst := some 17, op := .move (.t 16) },
  { dst := some 18, op := .faddr 13 (.t 2), guard := some (17, true) },
  { dst := some 19, op := .load true 2 (.t 18), guard := some (17, true) },
  { dst := some 20, op := .faddr 13 (.t 3), guard := some (17, true) },
  { dst := some 21, op := .load true 2 (.t 20), guard := some (17, true) },
  { dst := some 22, op := .eqAgg false [1, 1] (.t 19) (.t 21), guard := some (17, true) },
  { dst := some 23, op := .pick (.t 17) (.t 22) (.c (.v (.bool false))) },
  { dst := some 24, op := .move (.t 23) },
  { dst := some 25, op := .faddr 15 (.t 2), guard := some (24, true) },
  { dst := some 26, op := .load false 1 (.t 25), guard := some (24, true) },
  { dst := some 27, op := .faddr 15 (.t 3), guard := some (24, true) },
  { dst := some 28, op := .load false 1 (.t 27), guard := some (24, true) },
  { dst := some 29, op := .bin .eql (.t 26) (.t 28), guard := some (24, true) },
  { dst := some 30, op := .pick (.t 24) (.t 29) (.c (.v (.bool false))) },
  { dst := some 31, op := .move (.t 30) },
  { dst := some 32, op := .faddr 16 (.t 2), guard := some (31, true) },
  { dst := some 33, op := .load false 1 (.t 32), guard := some (31, true) },
  { dst := some 34, op := .faddr 16 (.t 3), guard := some (31, true) },
  { dst := some 35, op := .load false 1 (.t 34), guard := some (31, true) },
  { dst := some 36, op := .beq false (.t 33) (.t 35), guard := some (31, true) },
  { dst := some 37, op := .pick (.t 31) (.t 36) (.c (.v (.bool false))) },
  { dst := some 4, op := .move (.t 37) }])
 .ret))⟩
/-- arras.op.Take -/
def F169 : AFun := ⟨true, 42, [.cell 2 true 12, .t 3, .t 4], (.seq (.region [{ dst := some 2, op := .alloc 75 [.v (.int .i64 0), .v (.int .i64 0), .v (.int .i64 0), .v (.slice none 0 0), .v (.int .i64 0), .v (.int .i64 0), .v (.int .i64 0), .v (.int .i64 0), .v (.int .i64 0), .v (.string ⟨#[]⟩), .v (.int .i64 0), .v (.int .i64 0)] },
  { dst := some 3, op := .move (.c (.v (.int .i64 0))) },
  { dst := some 4, op := .move (.c (.v (.int .i64 0))) }])
 (.scope (.seq (.region [{ dst := some 6, op := .move (.t 0) },
  { dst := some 7, op := .build [.v (.slice none 0 0), .v (.int .i64 0), .v (.int .i64 0)] [(0, 1, (.t 6))] },
  { dst := some 8, op := .box 291 3 (.t 7) },
  { dst := some 5, op := .move (.t 8) }])
 (.seq (.region [{ dst := some 9, op := .move (.t 5) },
  { dst := some 10, op := .call 220 [(.t 9)] },
  { dst := none, op := .store 12 (.t 2) (.t 10) }])
 (.seq (.seq (.region [{ dst := some 11, op := .move (.t 5) },
  { dst := some 12, op := .nilChk (.t 11) },
  { dst := some 13, op := .faddr 2 (.t 12) },
  { dst := some 14, op := .load false 1 (.t 13) },
  { dst := some 4, op := .move (.t 14) }])
 (.seq (.region [{ dst := some 15, op := .move (.t 4) },
  { dst := some 16, op := .bin .neq (.t 15) (.c (.v (.int .i64 0))) }])
 (.cond (.t 16) (.goto 0) .skip)))
 (.seq (.region [{ dst := some 4, op := .move (.c (.v (.int .i64 1))) }])
 (.seq (.seq (.region [{ dst := some 17, op := .faddr 0 (.t 2) },
  { dst := some 18, op := .faddr 1 (.t 17) },
  { dst := some 19, op := .load false 1 (.t 18) },
  { dst := some 20, op := .faddr 3 (.t 2) },
  { dst := some 21, op := .load false 1 (.t 20) },
  { dst := some 22, op := .len (.t 21) },
  { dst := some 23, op := .bin .geq (.t 19) (.t 22) }])
 (.cond (.t 23) (.goto 0) .skip))
 (.seq (.region [{ dst := some 24, op := .faddr 3 (.t 2) },
  { dst := some 25, op := .load false 1 (.t 24) },
  { dst := some 26, op := .faddr 0 (.t 2) },
  { dst := some 27, op := .faddr 1 (.t 26) },
  { dst := some 28, op := .load false 1 (.t 27) },
  { dst := some 29, op := .iaddr 1 (.t 25) (.t 28) },
  { dst := some 30, op := .load false 1 (.t 29) },
  { dst := some 31, op := .bin .add (.t 30) (.c (.v (.int .i64 1))) },
  { dst := some 32, op := .faddr 2 (.t 2) },
  { dst := none, op := .store 1 (.t 32) (.t 31) }])
 (.seq (.seq (.region [{ dst := some 33, op := .load true 12 (.t 2) },
  { dst := some 34, op := .call 85 [(.t 33)] }])
 (.cond (.t 34) (.seq (.dregion [{ dst := some 35, op := .load true 12 (.t 2) },
  { dst := some 36, op := .move (.t 5) },
  { dst := some 37, op := .nilChk (.t 36) },
  { dst := some 38, op := .faddr 1 (.t 37) },
  { dst := some 39, op := .load false 1 (.t 38) },
  { dst := none, op := .store 12 (.t 2) (.t 35), un := [4] },
  { dst := some 3, op := .move (.t 39) },
  { dst := some 4, op := .move (.c (.v (.int .i64 0))) }])
 .ret) .skip))
 (.seq (.label 0)
 (.seq (.region [{ dst := some 40, op := .build [.v (.int .i64 0), .v (.int .i64 0), .v (.int .i64 0), .v (.slice none 0 0), .v (.int .i64 0), .v (.int .i64 0), .v (.int .i64 0), .v (.int .i64 0), .v (.int .i64 0), .v (.string ⟨#[]⟩), .v (.int .i64 0), .v (.int .i64 0)] [] },
  { dst := some 41, op := .move (.t 4) },
  { dst := none, op := .store 12 (.t 2) (.t 40) },
  { dst := some 3, op := .move (.c (.v (.int .i64 0))) },
  { dst := some 4, op := .move (.t 41) }])
 .ret))))))))) (.seq (.region [{ dst := some 6, op := .move (.t 0) },
  { dst := some 7, op := .build [.v (.slice none 0 0), .v (.int .i64 0), .v (.int .i64 0)] [(0, 1, (.t 6))] },
  { dst := some 8, op := .box 291 3 (.t 7) },
  { dst := some 5, op := .move (.t 8) }])
 (.seq (.region [{ dst := some 9, op := .move (.t 5) },
  { dst := some 10, op := .call 220 [(.t 9)] },
  { dst := none, op := .store 12 (.t 2) (.t 10) }])
 (.seq (.seq (.region [{ dst := some 11, op := .move (.t 5) },
  { dst := some 12, op := .nilChk (.t 11) },
  { dst := some 13, op := .faddr 2 (.t 12) },
  { dst := some 14, op := .load false 1 (.t 13) },
  { dst := some 4, op := .move (.t 14) }])
 (.seq (.region [{ dst := some 15, op := .move (.t 4) },
  { dst := some 16, op := .bin .neq (.t 15) (.c (.v (.int .i64 0))) }])
 (.cond (.t 16) (.goto 0) .skip)))
 (.seq (.region [{ dst := some 4, op := .move (.c (.v (.int .i64 1))) }])
 (.seq (.seq (.region [{ dst := some 17, op := .faddr 0 (.t 2) },
  { dst := some 18, op := .faddr 1 (.t 17) },
  { dst := some 19, op := .load false 1 (.t 18) },
  { dst := some 20, op := .faddr 3 (.t 2) },
  { dst := some 21, op := .load false 1 (.t 20) },
  { dst := some 22, op := .len (.t 21) },
  { dst := some 23, op := .bin .geq (.t 19) (.t 22) }])
 (.cond (.t 23) (.goto 0) .skip))
 (.seq (.region [{ dst := some 24, op := .faddr 3 (.t 2) },
  { dst := some 25, op := .load false 1 (.t 24) },
  { dst := some 26, op := .faddr 0 (.t 2) },
  { dst := some 27, op := .faddr 1 (.t 26) },
  { dst := some 28, op := .load false 1 (.t 27) },
  { dst := some 29, op := .iaddr 1 (.t 25) (.t 28) },
  { dst := some 30, op := .load false 1 (.t 29) },
  { dst := some 31, op := .bin .add (.t 30) (.c (.v (.int .i64 1))) },
  { dst := some 32, op := .faddr 2 (.t 2) },
  { dst := none, op := .store 1 (.t 32) (.t 31) }])
 (.seq (.seq (.region [{ dst := some 33, op := .load true 12 (.t 2) },
  { dst := some 34, op := .call 85 [(.t 33)] }])
 (.cond (.t 34) (.seq (.dregion [{ dst := some 35, op := .load true 12 (.t 2) },
  { dst := some 36, op := .move (.t 5) },
  { dst := some 37, op := .nilChk (.t 36) },
  { dst := some 38, op := .faddr 1 (.t 37) },
  { dst := some 39, op := .load false 1 (.t 38) },
  { dst := none, op := .store 12 (.t 2) (.t 35), un := [4] },
  { dst := some 3, op := .move (.t 39) },
  { dst := some 4, op := .move (.c (.v (.int .i64 0))) }])
 .ret) .skip))
 (.seq (.label 0)
 (.seq (.region [{ dst := some 40, op := .build [.v (.int .i64 0), .v (.int .i64 0), .v (.int .i64 0), .v (.slice none 0 0), .v (.int .i64 0), .v (.int .i64 0), .v (.int .i64 0), .v (.int .i64 0), .v (.int .i64 0), .v (.string ⟨#[]⟩), .v (.int .i64 0), .v (.int .i64 0)] [] },
  { dst := some 41, op := .move (.t 4) },
  { dst := none, op := .store 12 (.t 2) (.t 40) },
  { dst := some 3, op := .move (.c (.v (.int .i64 0))) },
  { dst := some 4, op := .move (.t 41) }])
 .ret)))))))))))⟩
/-- slices.Clone[[]arras.api.Op,arras.api.Op] -/
def F170 : AFun := ⟨false, 8, [.t 2], (.seq (.region [{ dst := some 2, op := .move (.c (.v (.slice none 0 0))) }])
 (.seq (.seq (.region [{ dst := some 3, op := .move (.t 0) },
  { dst := some 4, op := .eqNilS false (.t 3) }])
 (.cond (.t 4) (.seq (.region [{ dst := some 2, op := .move (.c (.v (.slice none 0 0))) }])
 .ret) .skip))
 (.seq (.region [{ dst := some 5, op := .buildSlice 75 12 0 [.v (.int .i64 0), .v (.int .i64 0), .v (.int .i64 0), .v (.slice none 0 0), .v (.int .i64 0), .v (.int .i64 0), .v (.int .i64 0), .v (.int .i64 0), .v (.int .i64 0), .v (.string ⟨#[]⟩), .v (.int .i64 0), .v (.int .i64 0)] [] },
  { dst := some 6, op := .move (.t 0) },
  { dst := some 7, op := .append 75 12 120 (.t 5) (.t 6) },
  { dst := some 2, op := .move (.t 7) }])
 .ret)))⟩
/-- arras.tree.Own -/
def F173 : AFun := ⟨false, 32, [.cell 2 true 2], (.seq (.region [{ dst := some 1, op := .box 27 2 (.t 0) },
  { dst := some 2, op := .alloc 27 [.v (.slice none 0 0), .v (.slice none 0 0)] }])
 (.seq (.dregion [{ dst := some 4, op := .faddr 0 (.t 1) },
  { dst := some 5, op := .load false 1 (.t 4) },
  { dst := some 6, op := .call 224 [(.t 5)] },
  { dst := some 7, op := .faddr 1 (.t 1) },
  { dst := some 8, op := .load false 1 (.t 7), un := [2] },
  { dst := some 9, op := .call 225 [(.t 8)] },
  { dst := some 10, op := .faddr 0 (.t 1) },
  { dst := none, op := .store 1 (.t 10) (.t 6) },
  { dst := some 11, op := .faddr 1 (.t 1) },
  { dst := none, op := .store 1 (.t 11) (.t 9) }])
 (.seq (.seq (.region [{ dst := some 12, op := .faddr 1 (.t 1) },
  { dst := some 13, op := .load false 1 (.t 12) },
  { dst := some 14, op := .len (.t 13) },
  { dst := some 15, op := .move (.c (.v (.int .i64 0))) }])
 (.block 0 (.loop (.seq (.region [{ dst := some 16, op := .bin .lss (.t 15) (.t 14) }])
 (.seq (.cond (.t 16) .skip (.exit 0))
 (.seq (.block 1 (.seq (.region [{ dst := some 17, op := .move (.t 15) },
  { dst := some 3, op := .move (.t 17) }])
 (.dregion [{ dst := some 18, op := .faddr 1 (.t 1) },
  { dst := some 19, op := .load false 1 (.t 18) },
  { dst := some 20, op := .move (.t 3) },
  { dst := some 21, op := .faddr 1 (.t 1) },
  { dst := some 22, op := .load false 1 (.t 21) },
  { dst := some 23, op := .move (.t 3) },
  { dst := some 24, op := .iaddr 17 (.t 22) (.t 23) },
  { dst := some 25, op := .faddr 0 (.t 24) },
  { dst := some 26, op := .load true 12 (.t 25) },
  { dst := some 27, op := .call 143 [(.t 26)] },
  { dst := some 28, op := .iaddr 17 (.t 19) (.t 20) },
  { dst := some 29, op := .faddr 0 (.t 28) },
  { dst := none, op := .store 12 (.t 29) (.t 27) }])))
 (.region [{ dst := some 30, op := .bin .add (.t 15) (.c (.v (.int .i64 1))) },
  { dst := some 15, op := .move (.t 30) }])))))))
 (.seq (.region [{ dst := some 31, op := .load true 2 (.t 1) },
  { dst := none, op := .store 2 (.t 2) (.t 31) }])
 .ret))))⟩
/-- slices.Clone[[]arras.api.Look,arras.api.Look] -/
def F174 : AFun := ⟨false, 8, [.t 2], (.seq (.region [{ dst := some 2, op := .move (.c (.v (.slice none 0 0))) }])
 (.seq (.seq (.region [{ dst := some 3, op := .move (.t 0) },
  { dst := some 4, op := .eqNilS false (.t 3) }])
 (.cond (.t 4) (.seq (.region [{ dst := some 2, op := .move (.c (.v (.slice none 0 0))) }])
 .ret) .skip))
 (.seq (.region [{ dst := some 5, op := .buildSlice 162 3 0 [.v (.int .i64 0), .v (.int .i64 0), .v (.slice none 0 0)] [] },
  { dst := some 6, op := .move (.t 0) },
  { dst := some 7, op := .append 162 3 40 (.t 5) (.t 6) },
  { dst := some 2, op := .move (.t 7) }])
 .ret)))⟩
/-- arras.op.Same -/
def F176 : AFun := ⟨true, 66, [.t 4], (.seq (.region [{ dst := some 2, op := .box 75 12 (.t 0) },
  { dst := some 3, op := .box 75 12 (.t 1) },
  { dst := some 4, op := .move (.c (.v (.bool false))) }])
 (.seq (.region [{ dst := some 5, op := .faddr 0 (.t 2) },
  { dst := some 6, op := .load true 2 (.t 5) },
  { dst := some 7, op := .faddr 0 (.t 3) },
  { dst := some 8, op := .load true 2 (.t 7) },
  { dst := some 9, op := .eqAgg false [1, 1] (.t 6) (.t 8) },
  { dst := some 10, op := .move (.t 9) },
  { dst := some 11, op := .faddr 2 (.t 2), guard := some (10, true) },
  { dst := some 12, op := .load false 1 (.t 11), guard := some (10, true) },
  { dst := some 13, op := .faddr 2 (.t 3), guard := some (10, true) },
  { dst := some 14, op := .load false 1 (.t 13), guard := some (10, true) },
  { dst := some 15, op := .bin .eql (.t 12) (.t 14), guard := some (10, true) },
  { dst := some 16, op := .pick (.t 10) (.t 15) (.c (.v (.bool false))) },
  { dst := some 17, op := .move (.t 16) },
  { dst := some 18, op := .faddr 3 (.t 2), guard := some (17, true) },
  { dst := some 19, op := .load false 1 (.t 18), guard := some (17, true) },
  { dst := some 20, op := .faddr 3 (.t 3), guard := some (17, true) },
  { dst := some 21, op := .load false 1 (.t 20), guard := some (17, true) },
  { dst := some 22, op := .call 77 [(.t 19), (.t 21)], guard := some (17, true) },
  { dst := some 23, op := .pick (.t 17) (.t 22) (.c (.v (.bool false))) },
  { dst := some 24, op := .move (.t 23) },
  { dst := some 25, op := .faddr 4 (.t 2), guard := some (24, true) },
  { dst := some 26, op := .load false 1 (.t 25), guard := some (24, true) },
  { dst := some 27, op := .faddr 4 (.t 3), guard := some (24, true) },
  { dst := some 28, op := .load false 1 (.t 27), guard := some (24, true) },
  { dst := some 29, op := .bin .eql (.t 26) (.t 28), guard := some (24, true) },
  { dst := some 30, op := .pick (.t 24) (.t 29) (.c (.v (.bool false))) },
  { dst := some 31, op := .move (.t 30) },
  { dst := some 32, op := .faddr 5 (.t 2), guard := some (31, true) },
  { dst := some 33, op := .load true 2 (.t 32), guard := some (31, true) },
  { dst := some 34, op := .faddr 5 (.t 3), guard := some (31, true) },
  { dst := some 35, op := .load true 2 (.t 34), guard := some (31, true) },
  { dst := some 36, op := .eqAgg false [1, 1] (.t 33) (.t 35), guard := some (31, true) },
  { dst := some 37, op := .pick (.t 31) (.t 36) (.c (.v (.bool false))) },
  { dst := some 38, op := .move (.t 37) },
  { dst := some 39, op := .faddr 7 (.t 2), guard := some (38, true) },
  { dst := some 40, op := .load true 2 (.t 39), guard := some (38, true) },
  { dst := some 41, op := .faddr 7 (.t 3), guard := some (38, true) },
  { dst := some 42, op := .load true 2 (.t 41), guard := some (38, true) },
  { dst := some 43, op := .eqAgg false [1, 1] (.t 40) (.t 42), guard := some (38, true) },
  { dst := some 44, op := .pick (.t 38) (.t 43) (.c (.v (.bool false))) },
  { dst := some 45, op := .move (.t 44) },
  { dst := some 46, op := .faddr 9 (.t 2), guard := some (45, true) },
  { dst := some 47, op := .load false 1 (.t 46), guard := some (45, true) },
  { dst := some 48, op := .faddr 9 (.t 3), guard := some (45, true) },
  { dst := some 49, op := .load false 1 (.t 48), guard := some (45, true) },
  { dst := some 50, op := .bin .eql (.t 47) (.t 49), guard := some (45, true) },
  { dst := some 51, op := .pick (.t 45) (.t 50) (.c (.v (.bool false))) },
  { dst := some 52, op := .move (.t 51) },
  { dst := some 53, op := .faddr 10 (.t 2), guard := some (52, true) },
  { dst := some 54, op := .load false 1 (.t 53), guard := some (52, true) },
  { dst := some 55, op := .faddr 10 (.t 3), guard := some (52, true) },
  { dst := some 56, op := .load false 1 (.t 55), guard := some (52, true) },
  { dst := some 57, op := .bin .eql (.t 54) (.t 56), guard := some (52, true) },
  { dst := some 58, op := .pick (.t 52) (.t 57) (.c (.v (.bool false))) },
  { dst := some 59, op := .move (.t 58) },
  { dst := some 60, op := .faddr 11 (.t 2), guard := some (59, true) },
  { dst := some 61, op := .load false 1 (.t 60), guard := some (59, true) },
  { dst := some 62, op := .faddr 11 (.t 3), guard := some (59, true) },
  { dst := some 63, op := .load false 1 (.t 62), guard := some (59, true) },
  { dst := some 64, op := .bin .eql (.t 61) (.t 63), guard := some (59, true) },
  { dst := some 65, op := .pick (.t 59) (.t 64) (.c (.v (.bool false))) },
  { dst := some 4, op := .move (.t 65) }])
 .ret))⟩
/-- arras.stamp.Cmp -/
def F178 : AFun := ⟨true, 17, [.t 4], (.seq (.region [{ dst := some 2, op := .box 41 2 (.t 0) },
  { dst := some 3, op := .box 41 2 (.t 1) },
  { dst := some 4, op := .move (.c (.v (.int .i64 0))) }])
 (.seq (.dregion [{ dst := some 5, op := .faddr 0 (.t 2) },
  { dst := some 6, op := .load false 1 (.t 5) },
  { dst := some 7, op := .faddr 0 (.t 3) },
  { dst := some 8, op := .load false 1 (.t 7) },
  { dst := some 9, op := .call 227 [(.t 6), (.t 8)] },
  { dst := some 10, op := .faddr 1 (.t 2) },
  { dst := some 11, op := .load false 1 (.t 10) },
  { dst := some 12, op := .faddr 1 (.t 3) },
  { dst := some 13, op := .load false 1 (.t 12) },
  { dst := some 14, op := .call 227 [(.t 11), (.t 13)] },
  { dst := some 15, op := .buildSlice 3 1 2 [.v (.int .i64 0)] [(0, 1, (.t 9)), (1, 1, (.t 14))] },
  { dst := some 16, op := .call 226 [(.t 15)] },
  { dst := some 4, op := .move (.t 16) }])
 .ret))⟩
/-- slices.IndexFunc[[]arras.api.Op,arras.api.Op] -/
def F179 : AFun := ⟨true, 19, [.t 4], (.seq (.region [{ dst := some 4, op := .move (.c (.v (.int .i64 0))) }])
 (.seq (.seq (.region [{ dst := some 6, op := .move (.t 0) },
  { dst := some 7, op := .len (.t 6) },
  { dst := some 8, op := .move (.c (.v (.int .i64 0))) }])
 (.block 0 (.loop (.seq (.region [{ dst := some 9, op := .bin .lss (.t 8) (.t 7) }])
 (.seq (.cond (.t 9) .skip (.exit 0))
 (.seq (.block 1 (.seq (.region [{ dst := some 10, op := .move (.t 8) },
  { dst := some 5, op := .move (.t 10) }])
 (.seq (.region [{ dst := some 11, op := .move (.t 1) },
  { dst := some 12, op := .move (.t 0) },
  { dst := some 13, op := .move (.t 5) },
  { dst := some 14, op := .iaddr 12 (.t 12) (.t 13) },
  { dst := some 15, op := .load true 12 (.t 14) },
  { dst := some 16, op := .callv (.t 11) [(.t 15)] }])
 (.cond (.t 16) (.seq (.region [{ dst := some 17, op := .move (.t 5) },
  { dst := some 4, op := .move (.t 17) }])
 .ret) .skip))))
 (.region [{ dst := some 18, op := .bin .add (.t 8) (.c (.v (.int .i64 1))) },
  { dst := some 8, op := .move (.t 18) }])))))))
 (.seq (.region [{ dst := some 4, op := .move (.c (.v (.int .i64 (-1)))) }])
 .ret)))⟩
/-- arras.stamp.Next -/
def F180 : AFun := ⟨true, 30, [.cell 4 true 2, .t 5], (.seq (.region [{ dst := some 4, op := .alloc 41 [.v (.int .i64 0), .v (.int .i64 0)] },
  { dst := some 5, op := .move (.c (.v (.int .i64 0))) }])
 (.scope (.seq (.region [{ dst := some 7, op := .move (.t 0) },
  { dst := some 8, op := .bin .add (.t 7) (.c (.v (.int .i64 1))) },
  { dst := some 9, op := .move (.t 1) },
  { dst := some 10, op := .build [.v (.int .i64 0), .v (.int .i64 0)] [(0, 1, (.t 8)), (1, 1, (.t 9))] },
  { dst := some 6, op := .alloc 41 [.v (.int .i64 0), .v (.int .i64 0)] },
  { dst := none, op := .store 2 (.t 6) (.t 10) }])
 (.seq (.seq (.region [{ dst := some 11, op := .move (.t 0) },
  { dst := some 12, op := .bin .lss (.t 11) (.c (.v (.int .i64 0))) },
  { dst := some 13, op := .move (.t 12) },
  { dst := some 14, op := .move (.t 0), guard := some (13, false) },
  { dst := some 15, op := .bin .gtr (.t 14) (.c (.v (.int .i64 1099511627776))), guard := some (13, false) },
  { dst := some 16, op := .pick (.t 13) (.c (.v (.bool true))) (.t 15) },
  { dst := some 17, op := .move (.t 16) },
  { dst := some 18, op := .move (.t 1), guard := some (17, false) },
  { dst := some 19, op := .bin .lss (.t 18) (.c (.v (.int .i64 0))), guard := some (17, false) },
  { dst := some 20, op := .pick (.t 17) (.c (.v (.bool true))) (.t 19) },
  { dst := some 21, op := .move (.t 20) },
  { dst := some 22, op := .move (.t 1), guard := some (21, false) },
  { dst := some 23, op := .bin .geq (.t 22) (.c (.v (.int .i64 16))), guard := some (21, false) },
  { dst := some 24, op := .pick (.t 21) (.c (.v (.bool true))) (.t 23) }])
 (.cond (.t 24) (.goto 0) .skip))
 (.seq (.seq (.region [{ dst := some 25, op := .move (.t 0) },
  { dst := some 26, op := .bin .eql (.t 25) (.c (.v (.int .i64 1099511627776))) }])
 (.cond (.t 26) (.seq (.region [{ dst := some 27, op := .build [.v (.int .i64 0), .v (.int .i64 0)] [] },
  { dst := none, op := .store 2 (.t 4) (.t 27) },
  { dst := some 5, op := .move (.c (.v (.int .i64 5))) }])
 .ret) .skip))
 (.seq (.seq (.region [{ dst := some 28, op := .load true 2 (.t 6) },
  { dst := none, op := .store 2 (.t 4) (.t 28) },
  { dst := some 5, op := .move (.c (.v (.int .i64 0))) }])
 .ret)
 (.seq (.label 0)
 (.seq (.region [{ dst := some 29, op := .build [.v (.int .i64 0), .v (.int .i64 0)] [] },
  { dst := none, op := .store 2 (.t 4) (.t 29) },
  { dst := some 5, op := .move (.c (.v (.int .i64 1))) }])
 .ret)))))) (.seq (.region [{ dst := some 7, op := .move (.t 0) },
  { dst := some 8, op := .bin .add (.t 7) (.c (.v (.int .i64 1))) },
  { dst := some 9, op := .move (.t 1) },
  { dst := some 10, op := .build [.v (.int .i64 0), .v (.int .i64 0)] [(0, 1, (.t 8)), (1, 1, (.t 9))] },
  { dst := some 6, op := .alloc 41 [.v (.int .i64 0), .v (.int .i64 0)] },
  { dst := none, op := .store 2 (.t 6) (.t 10) }])
 (.seq (.seq (.region [{ dst := some 11, op := .move (.t 0) },
  { dst := some 12, op := .bin .lss (.t 11) (.c (.v (.int .i64 0))) },
  { dst := some 13, op := .move (.t 12) },
  { dst := some 14, op := .move (.t 0), guard := some (13, false) },
  { dst := some 15, op := .bin .gtr (.t 14) (.c (.v (.int .i64 1099511627776))), guard := some (13, false) },
  { dst := some 16, op := .pick (.t 13) (.c (.v (.bool true))) (.t 15) },
  { dst := some 17, op := .move (.t 16) },
  { dst := some 18, op := .move (.t 1), guard := some (17, false) },
  { dst := some 19, op := .bin .lss (.t 18) (.c (.v (.int .i64 0))), guard := some (17, false) },
  { dst := some 20, op := .pick (.t 17) (.c (.v (.bool true))) (.t 19) },
  { dst := some 21, op := .move (.t 20) },
  { dst := some 22, op := .move (.t 1), guard := some (21, false) },
  { dst := some 23, op := .bin .geq (.t 22) (.c (.v (.int .i64 16))), guard := some (21, false) },
  { dst := some 24, op := .pick (.t 21) (.c (.v (.bool true))) (.t 23) }])
 (.cond (.t 24) (.goto 0) .skip))
 (.seq (.seq (.region [{ dst := some 25, op := .move (.t 0) },
  { dst := some 26, op := .bin .eql (.t 25) (.c (.v (.int .i64 1099511627776))) }])
 (.cond (.t 26) (.seq (.region [{ dst := some 27, op := .build [.v (.int .i64 0), .v (.int .i64 0)] [] },
  { dst := none, op := .store 2 (.t 4) (.t 27) },
  { dst := some 5, op := .move (.c (.v (.int .i64 5))) }])
 .ret) .skip))
 (.seq (.seq (.region [{ dst := some 28, op := .load true 2 (.t 6) },
  { dst := none, op := .store 2 (.t 4) (.t 28) },
  { dst := some 5, op := .move (.c (.v (.int .i64 0))) }])
 .ret)
 (.seq (.label 0)
 (.seq (.region [{ dst := some 29, op := .build [.v (.int .i64 0), .v (.int .i64 0)] [] },
  { dst := none, op := .store 2 (.t 4) (.t 29) },
  { dst := some 5, op := .move (.c (.v (.int .i64 1))) }])
 .ret))))))))⟩
/-- arras.tree.Node -/
def F181 : AFun := ⟨true, 23, [.cell 4 true 5, .t 5], (.seq (.region [{ dst := some 2, op := .box 27 2 (.t 0) },
  { dst := some 3, op := .box 41 2 (.t 1) },
  { dst := some 4, op := .alloc 197 [.v (.int .i64 0), .v (.int .i64 0), .v (.int .i64 0), .v (.int .i64 0), .v (.string ⟨#[]⟩)] },
  { dst := some 5, op := .move (.c (.v (.bool false))) }])
 (.seq (.region [{ dst := some 9, op := .faddr 0 (.t 2) },
  { dst := some 10, op := .load false 1 (.t 9) },
  { dst := some 11, op := .load true 2 (.t 3) },
  { dst := some 12, op := .call 228 [(.t 10), (.t 11)] },
  { dst := some 8, op := .move (.t 12) },
  { dst := some 13, op := .ext (.t 8) 0 },
  { dst := some 14, op := .ext (.t 8) 1 },
  { dst := some 6, op := .move (.t 13) },
  { dst := some 7, op := .move (.t 14) }])
 (.seq (.seq (.region [{ dst := some 15, op := .move (.t 7) },
  { dst := some 16, op := .un .not (.t 15) }])
 (.cond (.t 16) (.seq (.region [{ dst := some 17, op := .build [.v (.int .i64 0), .v (.int .i64 0), .v (.int .i64 0), .v (.int .i64 0), .v (.string ⟨#[]⟩)] [] },
  { dst := none, op := .store 5 (.t 4) (.t 17) },
  { dst := some 5, op := .move (.c (.v (.bool false))) }])
 .ret) .skip))
 (.seq (.region [{ dst := some 18, op := .faddr 0 (.t 2) },
  { dst := some 19, op := .load false 1 (.t 18) },
  { dst := some 20, op := .move (.t 6) },
  { dst := some 21, op := .iaddr 5 (.t 19) (.t 20) },
  { dst := some 22, op := .load true 5 (.t 21) },
  { dst := none, op := .store 5 (.t 4) (.t 22) },
  { dst := some 5, op := .move (.c (.v (.bool true))) }])
 .ret))))⟩
/-- arras.stamp.Trash -/
def F182 : AFun := ⟨true, 2, [.cell 0 true 2], (.seq (.region [{ dst := some 0, op := .alloc 41 [.v (.int .i64 0), .v (.int .i64 0)] }])
 (.seq (.region [{ dst := some 1, op := .build [.v (.int .i64 0), .v (.int .i64 0)] [(1, 1, (.c (.v (.int .i64 1))))] },
  { dst := none, op := .store 2 (.t 0) (.t 1) }])
 .ret))⟩
/-- arras.shape.Gap -/
def F184 : AFun := ⟨true, 60, [.t 6, .t 7], (.seq (.region [{ dst := some 3, op := .box 30 3 (.t 0) },
  { dst := some 4, op := .box 41 2 (.t 1) },
  { dst := some 5, op := .box 41 2 (.t 2) },
  { dst := some 6, op := .move (.c (.v (.string ⟨#[]⟩))) },
  { dst := some 7, op := .move (.c (.v (.int .i64 0))) }])
 (.seq (.seq (.region [{ dst := some 12, op := .faddr 0 (.t 3) },
  { dst := some 13, op := .load true 2 (.t 12) },
  { dst := some 14, op := .load true 2 (.t 4) },
  { dst := some 15, op := .call 230 [(.t 13), (.t 14)] },
  { dst := some 16, op := .un .not (.t 15) }])
 (.cond (.t 16) (.seq (.region [{ dst := some 6, op := .move (.c (.v (.string ⟨#[]⟩))) },
  { dst := some 7, op := .move (.c (.v (.int .i64 3))) }])
 .ret) .skip))
 (.seq (.region [{ dst := some 17, op := .faddr 0 (.t 3) },
  { dst := some 18, op := .load true 2 (.t 17) },
  { dst := some 19, op := .load true 2 (.t 4) },
  { dst := some 20, op := .call 231 [(.t 18), (.t 19)] },
  { dst := some 8, op := .move (.t 20) }])
 (.seq (.region [{ dst := some 21, op := .move (.t 8) },
  { dst := some 22, op := .len (.t 21) },
  { dst := some 9, op := .move (.t 22) }])
 (.seq (.seq (.dregion [{ dst := some 23, op := .load true 2 (.t 5) },
  { dst := some 24, op := .call 189 [] },
  { dst := some 25, op := .eqAgg true [1, 1] (.t 23) (.t 24) }])
 (.cond (.t 25) (.region [{ dst := some 26, op := .move (.t 8) },
  { dst := some 27, op := .mkfn 233 [(.t 5)] },
  { dst := some 28, op := .call 232 [(.t 26), (.t 27)] },
  { dst := some 9, op := .move (.t 28) }]) .skip))
 (.seq (.seq (.region [{ dst := some 29, op := .move (.t 9) },
  { dst := some 30, op := .bin .lss (.t 29) (.c (.v (.int .i64 0))) }])
 (.cond (.t 30) (.seq (.region [{ dst := some 6, op := .move (.c (.v (.string ⟨#[]⟩))) },
  { dst := some 7, op := .move (.c (.v (.int .i64 3))) }])
 .ret) .skip))
 (.seq (.region [{ dst := some 10, op := .move (.c (.v (.string ⟨#[]⟩))) },
  { dst := some 11, op := .move (.c (.v (.string ⟨#[]⟩))) }])
 (.seq (.seq (.region [{ dst := some 31, op := .move (.t 9) },
  { dst := some 32, op := .bin .gtr (.t 31) (.c (.v (.int .i64 0))) }])
 (.cond (.t 32) (.region [{ dst := some 33, op := .move (.t 8) },
  { dst := some 34, op := .move (.t 9) },
  { dst := some 35, op := .bin .sub (.t 34) (.c (.v (.int .i64 1))) },
  { dst := some 36, op := .iaddr 5 (.t 33) (.t 35) },
  { dst := some 37, op := .faddr 4 (.t 36) },
  { dst := some 38, op := .load false 1 (.t 37) },
  { dst := some 10, op := .move (.t 38) }]) .skip))
 (.seq (.seq (.region [{ dst := some 39, op := .move (.t 9) },
  { dst := some 40, op := .move (.t 8) },
  { dst := some 41, op := .len (.t 40) },
  { dst := some 42, op := .bin .lss (.t 39) (.t 41) }])
 (.cond (.t 42) (.region [{ dst := some 43, op := .move (.t 8) },
  { dst := some 44, op := .move (.t 9) },
  { dst := some 45, op := .iaddr 5 (.t 43) (.t 44) },
  { dst := some 46, op := .faddr 4 (.t 45) },
  { dst := some 47, op := .load false 1 (.t 46) },
  { dst := some 11, op := .move (.t 47) }]) .skip))
 (.seq (.seq (.region [{ dst := some 48, op := .move (.t 10) },
  { dst := some 49, op := .move (.t 11) },
  { dst := some 50, op := .bin .eql (.t 48) (.t 49) },
  { dst := some 51, op := .move (.t 50) },
  { dst := some 52, op := .move (.t 10), guard := some (51, true) },
  { dst := some 53, op := .bin .neq (.t 52) (.c (.v (.string ⟨#[]⟩))), guard := some (51, true) },
  { dst := some 54, op := .pick (.t 51) (.t 53) (.c (.v (.bool false))) }])
 (.cond (.t 54) (.seq (.region [{ dst := some 6, op := .move (.c (.v (.string ⟨#[]⟩))) },
  { dst := some 7, op := .move (.c (.v (.int .i64 5))) }])
 .ret) .skip))
 (.seq (.region [{ dst := some 55, op := .move (.t 10) },
  { dst := some 56, op := .move (.t 11) },
  { dst := some 57, op := .call 234 [(.t 55), (.t 56)] },
  { dst := some 58, op := .ext (.t 57) 0 },
  { dst := some 59, op := .ext (.t 57) 1 },
  { dst := some 6, op := .move (.t 58) },
  { dst := some 7, op := .move (.t 59) }])
 .ret)))))))))))⟩
/-- arras.shape.moves -/
def F185 : AFun := ⟨true, 74, [.t 4], (.seq (.region [{ dst := some 2, op := .box 27 2 (.t 0) },
  { dst := some 3, op := .box 75 12 (.t 1) },
  { dst := some 4, op := .move (.c (.v (.int .i64 0))) }])
 (.seq (.region [{ dst := some 9, op := .load true 2 (.t 2) },
  { dst := some 10, op := .faddr 5 (.t 3) },
  { dst := some 11, op := .load true 2 (.t 10) },
  { dst := some 12, op := .call 181 [(.t 9), (.t 11)] },
  { dst := some 8, op := .move (.t 12) },
  { dst := some 13, op := .ext (.t 8) 0 },
  { dst := some 14, op := .ext (.t 8) 1 },
  { dst := some 5, op := .alloc 197 [.v (.int .i64 0), .v (.int .i64 0), .v (.int .i64 0), .v (.int .i64 0), .v (.string ⟨#[]⟩)] },
  { dst := none, op := .store 5 (.t 5) (.t 13) },
  { dst := some 6, op := .move (.t 14) }])
 (.seq (.region [{ dst := some 15, op := .load true 2 (.t 2) },
  { dst := some 16, op := .faddr 7 (.t 3) },
  { dst := some 17, op := .load true 2 (.t 16) },
  { dst := some 18, op := .call 230 [(.t 15), (.t 17)] },
  { dst := some 7, op := .move (.t 18) }])
 (.seq (.block 0 (.seq (.dregion [{ dst := some 20, op := .faddr 7 (.t 3) },
  { dst := some 21, op := .load true 2 (.t 20) },
  { dst := some 22, op := .call 182 [] },
  { dst := some 23, op := .eqAgg true [1, 1] (.t 21) (.t 22) },
  { dst := some 24, op := .move (.t 23) },
  { dst := some 25, op := .move (.t 7), guard := some (24, true) },
  { dst := some 26, op := .un .not (.t 25), guard := some (24, true) },
  { dst := some 27, op := .pick (.t 24) (.t 26) (.c (.v (.bool false))) },
  { dst := some 19, op := .move (.t 27) }])
 (.cond (.t 19) (.seq (.region [{ dst := some 4, op := .move (.c (.v (.int .i64 3))) }])
 .ret) (.seq (.seq (.region [{ dst := some 29, op := .move (.t 6) },
  { dst := some 30, op := .move (.t 29) },
  { dst := some 31, op := .load true 2 (.t 2), guard := some (30, true) },
  { dst := some 32, op := .load true 12 (.t 3), guard := some (30, true) },
  { dst := some 33, op := .call 235 [(.t 31), (.t 32)], guard := some (30, true) },
  { dst := some 34, op := .move (.t 33), guard := some (30, true) },
  { dst := some 35, op := .load true 2 (.t 2), guard := some (34, false) },
  { dst := some 36, op := .faddr 5 (.t 3), guard := some (34, false) },
  { dst := some 37, op := .load true 2 (.t 36), guard := some (34, false) },
  { dst := some 38, op := .call 230 [(.t 35), (.t 37)], guard := some (34, false) },
  { dst := some 39, op := .un .not (.t 38), guard := some (34, false) },
  { dst := some 40, op := .pick (.t 34) (.c (.v (.bool true))) (.t 39), guard := some (30, true) },
  { dst := some 41, op := .pick (.t 30) (.t 40) (.c (.v (.bool false))) },
  { dst := some 28, op := .move (.t 41) }])
 (.cond (.t 28) .skip (.dregion [{ dst := some 42, op := .move (.t 6) },
  { dst := some 43, op := .un .not (.t 42) },
  { dst := some 44, op := .move (.t 43) },
  { dst := some 45, op := .faddr 7 (.t 3), guard := some (44, true) },
  { dst := some 46, op := .load true 2 (.t 45), guard := some (44, true) },
  { dst := some 47, op := .call 182 [], guard := some (44, true) },
  { dst := some 48, op := .eqAgg false [1, 1] (.t 46) (.t 47), guard := some (44, true) },
  { dst := some 49, op := .pick (.t 44) (.t 48) (.c (.v (.bool false))) },
  { dst := some 28, op := .move (.t 49) }])))
 (.cond (.t 28) (.seq (.region [{ dst := some 4, op := .move (.c (.v (.int .i64 6))) }])
 .ret) (.seq (.region [{ dst := some 51, op := .move (.t 6) },
  { dst := some 52, op := .un .not (.t 51) },
  { dst := some 53, op := .move (.t 52) },
  { dst := some 54, op := .load true 2 (.t 2), guard := some (53, true) },
  { dst := some 55, op := .call 236 [(.t 54)], guard := some (53, true) },
  { dst := some 56, op := .bin .geq (.t 55) (.c (.v (.int .i64 48))), guard := some (53, true) },
  { dst := some 57, op := .pick (.t 53) (.t 56) (.c (.v (.bool false))) },
  { dst := some 50, op := .move (.t 57) }])
 (.cond (.t 50) (.seq (.region [{ dst := some 4, op := .move (.c (.v (.int .i64 5))) }])
 .ret) (.seq (.dregion [{ dst := some 59, op := .move (.t 7) },
  { dst := some 60, op := .move (.t 59) },
  { dst := some 61, op := .load true 2 (.t 2), guard := some (60, true) },
  { dst := some 62, op := .faddr 7 (.t 3), guard := some (60, true) },
  { dst := some 63, op := .load true 2 (.t 62), guard := some (60, true) },
  { dst := some 64, op := .call 237 [(.t 61), (.t 63)], guard := some (60, true) },
  { dst := some 65, op := .len (.t 64), guard := some (60, true) },
  { dst := some 66, op := .bin .add (.t 65) (.c (.v (.int .i64 1))), guard := some (60, true) },
  { dst := some 67, op := .load true 2 (.t 2), guard := some (60, true) },
  { dst := some 68, op := .faddr 5 (.t 3), guard := some (60, true) },
  { dst := some 69, op := .load true 2 (.t 68), guard := some (60, true) },
  { dst := some 70, op := .call 238 [(.t 67), (.t 69)], guard := some (60, true) },
  { dst := some 71, op := .bin .add (.t 66) (.t 70), guard := some (60, true) },
  { dst := some 72, op := .bin .gtr (.t 71) (.c (.v (.int .i64 13))), guard := some (60, true) },
  { dst := some 73, op := .pick (.t 60) (.t 72) (.c (.v (.bool false))) },
  { dst := some 58, op := .move (.t 73) }])
 (.cond (.t 58) (.seq (.region [{ dst := some 4, op := .move (.c (.v (.int .i64 2))) }])
 .ret) .skip)))))))))
 (.seq (.region [{ dst := some 4, op := .move (.c (.v (.int .i64 0))) }])
 .ret)))))⟩
/-- arras.stamp.Root -/
def F189 : AFun := ⟨true, 2, [.cell 0 true 2], (.seq (.region [{ dst := some 0, op := .alloc 41 [.v (.int .i64 0), .v (.int .i64 0)] }])
 (.seq (.region [{ dst := some 1, op := .build [.v (.int .i64 0), .v (.int .i64 0)] [] },
  { dst := none, op := .store 2 (.t 0) (.t 1) }])
 .ret))⟩
/-- arras.stamp.Place -/
def F191 : AFun := ⟨true, 15, [.t 2], (.seq (.region [{ dst := some 1, op := .box 41 2 (.t 0) },
  { dst := some 2, op := .move (.c (.v (.bool false))) }])
 (.seq (.dregion [{ dst := some 3, op := .load true 2 (.t 1) },
  { dst := some 4, op := .call 140 [(.t 3)] },
  { dst := some 5, op := .move (.t 4) },
  { dst := some 6, op := .load true 2 (.t 1), guard := some (5, false) },
  { dst := some 7, op := .call 189 [], guard := some (5, false) },
  { dst := some 8, op := .eqAgg false [1, 1] (.t 6) (.t 7), guard := some (5, false) },
  { dst := some 9, op := .pick (.t 5) (.c (.v (.bool true))) (.t 8) },
  { dst := some 10, op := .move (.t 9) },
  { dst := some 11, op := .load true 2 (.t 1), guard := some (10, false) },
  { dst := some 12, op := .call 182 [], guard := some (10, false) },
  { dst := some 13, op := .eqAgg false [1, 1] (.t 11) (.t 12), guard := some (10, false) },
  { dst := some 14, op := .pick (.t 10) (.c (.v (.bool true))) (.t 13) },
  { dst := some 2, op := .move (.t 14) }])
 .ret))⟩
/-- arras.key.Is -/
def F192 : AFun := ⟨true, 19, [.t 2], (.seq (.region [{ dst := some 2, op := .move (.c (.v (.bool false))) }])
 (.seq (.region [{ dst := some 3, op := .move (.t 0) },
  { dst := some 4, op := .lenS (.t 3) },
  { dst := some 5, op := .bin .geq (.t 4) (.c (.v (.int .i64 1))) },
  { dst := some 6, op := .move (.t 5) },
  { dst := some 7, op := .move (.t 0), guard := some (6, true) },
  { dst := some 8, op := .lenS (.t 7), guard := some (6, true) },
  { dst := some 9, op := .bin .leq (.t 8) (.c (.v (.int .i64 64))), guard := some (6, true) },
  { dst := some 10, op := .pick (.t 6) (.t 9) (.c (.v (.bool false))) },
  { dst := some 11, op := .move (.t 10) },
  { dst := some 12, op := .move (.t 0), guard := some (11, true) },
  { dst := some 13, op := .move (.t 0), guard := some (11, true) },
  { dst := some 14, op := .lenS (.t 13), guard := some (11, true) },
  { dst := some 15, op := .bin .sub (.t 14) (.c (.v (.int .i64 1))), guard := some (11, true) },
  { dst := some 16, op := .index (.t 12) (.t 15), guard := some (11, true) },
  { dst := some 17, op := .bin .neq (.t 16) (.c (.v (.int .u8 0))), guard := some (11, true) },
  { dst := some 18, op := .pick (.t 11) (.t 17) (.c (.v (.bool false))) },
  { dst := some 2, op := .move (.t 18) }])
 .ret))⟩
/-- slices.ContainsFunc[[]arras.api.Entry,arras.api.Entry] -/
def F194 : AFun := ⟨true, 9, [.t 4], (.seq (.region [{ dst := some 4, op := .move (.c (.v (.bool false))) }])
 (.seq (.region [{ dst := some 5, op := .move (.t 0) },
  { dst := some 6, op := .move (.t 1) },
  { dst := some 7, op := .call 243 [(.t 5), (.t 6)] },
  { dst := some 8, op := .bin .geq (.t 7) (.c (.v (.int .i64 0))) },
  { dst := some 4, op := .move (.t 8) }])
 .ret))⟩
/-- arras.replica.put$1 -/
def F195 : AFun := ⟨true, 10, [.t 3], (.seq (.region [{ dst := some 2, op := .box 200 17 (.t 0) },
  { dst := some 3, op := .move (.c (.v (.bool false))) }])
 (.seq (.region [{ dst := some 4, op := .faddr 0 (.t 2) },
  { dst := some 5, op := .faddr 0 (.t 4) },
  { dst := some 6, op := .load true 2 (.t 5) },
  { dst := some 7, op := .faddr 0 (.t 1) },
  { dst := some 8, op := .load true 2 (.t 7) },
  { dst := some 9, op := .eqAgg false [1, 1] (.t 6) (.t 8) },
  { dst := some 3, op := .move (.t 9) }])
 .ret))⟩
/-- arras.shape.Put -/
def F196 : AFun := ⟨false, 66, [.cell 4 true 3, .t 5], (.seq (.region [{ dst := some 2, op := .box 30 3 (.t 0) },
  { dst := some 3, op := .box 75 12 (.t 1) },
  { dst := some 4, op := .alloc 30 [.v (.slice none 0 0), .v (.slice none 0 0), .v (.slice none 0 0)] },
  { dst := some 5, op := .move (.c (.v (.int .i64 0))) }])
 (.seq (.seq (.region [{ dst := some 10, op := .faddr 4 (.t 3) },
  { dst := some 11, op := .load false 1 (.t 10) },
  { dst := some 12, op := .bin .eql (.t 11) (.c (.v (.int .i64 1))) }])
 (.cond (.t 12) (.seq (.region [{ dst := some 14, op := .faddr 0 (.t 2) },
  { dst := some 15, op := .load true 2 (.t 14) },
  { dst := some 16, op := .load true 12 (.t 3) },
  { dst := some 17, op := .call 244 [(.t 15), (.t 16)] },
  { dst := some 13, op := .move (.t 17) },
  { dst := some 18, op := .ext (.t 13) 0 },
  { dst := some 19, op := .ext (.t 13) 1 },
  { dst := some 6, op := .alloc 27 [.v (.slice none 0 0), .v (.slice none 0 0)] },
  { dst := none, op := .store 2 (.t 6) (.t 18) },
  { dst := some 7, op := .move (.t 19) }])
 (.seq (.seq (.region [{ dst := some 20, op := .move (.t 7) },
  { dst := some 21, op := .bin .neq (.t 20) (.c (.v (.int .i64 0))) }])
 (.cond (.t 21) (.seq (.region [{ dst := some 22, op := .build [.v (.slice none 0 0), .v (.slice none 0 0), .v (.slice none 0 0)] [] },
  { dst := some 23, op := .move (.t 7) },
  { dst := none, op := .store 3 (.t 4) (.t 22) },
  { dst := some 5, op := .move (.t 23) }])
 .ret) .skip))
 (.seq (.region [{ dst := some 24, op := .load true 2 (.t 6) },
  { dst := some 25, op := .faddr 0 (.t 2) },
  { dst := none, op := .store 2 (.t 25) (.t 24) }])
 (.seq (.region [{ dst := some 26, op := .load true 3 (.t 2) },
  { dst := none, op := .store 3 (.t 4) (.t 26) },
  { dst := some 5, op := .move (.c (.v (.int .i64 0))) }])
 .ret)))) .skip))
 (.seq (.region [{ dst := some 28, op := .faddr 2 (.t 2) },
  { dst := some 29, op := .load false 1 (.t 28) },
  { dst := some 30, op := .faddr 5 (.t 3) },
  { dst := some 31, op := .load true 2 (.t 30) },
  { dst := some 32, op := .call 245 [(.t 29), (.t 31)] },
  { dst := some 27, op := .move (.t 32) },
  { dst := some 33, op := .ext (.t 27) 0 },
  { dst := some 34, op := .ext (.t 27) 1 },
  { dst := some 8, op := .move (.t 33) },
  { dst := some 9, op := .move (.t 34) }])
 (.seq (.seq (.region [{ dst := some 35, op := .move (.t 9) },
  { dst := some 36, op := .un .not (.t 35) }])
 (.cond (.t 36) (.region [{ dst := some 37, op := .faddr 2 (.t 2) },
  { dst := some 38, op := .load false 1 (.t 37) },
  { dst := some 39, op := .move (.t 8) },
  { dst := some 40, op := .faddr 5 (.t 3) },
  { dst := some 41, op := .load true 2 (.t 40) },
  { dst := some 42, op := .build [.v (.int .i64 0), .v (.int .i64 0), .v (.slice none 0 0)] [(0, 2, (.t 41))] },
  { dst := some 43, op := .buildSlice 162 3 1 [.v (.int .i64 0), .v (.int .i64 0), .v (.slice none 0 0)] [(0, 3, (.t 42))] },
  { dst := some 44, op := .call 246 [(.t 38), (.t 39), (.t 43)] },
  { dst := some 45, op := .faddr 2 (.t 2) },
  { dst := none, op := .store 1 (.t 45) (.t 44) }]) .skip))
 (.seq (.dregion [{ dst := some 46, op := .faddr 2 (.t 2) },
  { dst := some 47, op := .load false 1 (.t 46) },
  { dst := some 48, op := .move (.t 8) },
  { dst := some 49, op := .faddr 2 (.t 2) },
  { dst := some 50, op := .load false 1 (.t 49) },
  { dst := some 51, op := .move (.t 8) },
  { dst := some 52, op := .iaddr 3 (.t 50) (.t 51) },
  { dst := some 53, op := .faddr 2 (.t 52) },
  { dst := some 54, op := .load false 1 (.t 53) },
  { dst := some 55, op := .faddr 10 (.t 3) },
  { dst := some 56, op := .load false 1 (.t 55) },
  { dst := some 57, op := .faddr 11 (.t 3) },
  { dst := some 58, op := .load false 1 (.t 57) },
  { dst := some 59, op := .faddr 0 (.t 3) },
  { dst := some 60, op := .load true 2 (.t 59) },
  { dst := some 61, op := .build [.v (.int .i64 0), .v (.int .i64 0), .v (.int .i64 0), .v (.int .i64 0)] [(0, 1, (.t 56)), (1, 1, (.t 58)), (2, 2, (.t 60))] },
  { dst := some 62, op := .call 247 [(.t 54), (.t 61)], un := [1] },
  { dst := some 63, op := .iaddr 3 (.t 47) (.t 48) },
  { dst := some 64, op := .faddr 2 (.t 63) },
  { dst := none, op := .store 1 (.t 64) (.t 62) }])
 (.seq (.region [{ dst := some 65, op := .load true 3 (.t 2) },
  { dst := none, op := .store 3 (.t 4) (.t 65) },
  { dst := some 5, op := .move (.c (.v (.int .i64 0))) }])
 .ret))))))⟩
/-- arras.arrasref6.Root -/
def F197 : AFun := ⟨true, 2, [.cell 0 true 2], (.seq (.region [{ dst := some 0, op := .alloc 41 [.v (.int .i64 0), .v (.int .i64 0)] }])
 (.seq (.region [{ dst := some 1, op := .build [.v (.int .i64 0), .v (.int .i64 0)] [] },
  { dst := none, op := .store 2 (.t 0) (.t 1) }])
 .ret))⟩
/-- arras.arrasref0.CopyLooks -/
def F200 : AFun := ⟨true, 20, [.t 2], (.seq (.region [{ dst := some 2, op := .move (.c (.v (.slice none 0 0))) }])
 (.seq (.region [{ dst := some 3, op := .move (.c (.v (.slice none 0 0))) }])
 (.seq (.seq (.region [{ dst := some 4, op := .move (.c (.v (.int .i64 0))) }])
 (.block 0 (.loop (.seq (.seq (.region [{ dst := some 5, op := .move (.t 4) },
  { dst := some 6, op := .move (.t 0) },
  { dst := some 7, op := .len (.t 6) },
  { dst := some 8, op := .bin .lss (.t 5) (.t 7) }])
 (.cond (.t 8) .skip (.exit 0)))
 (.seq (.block 1 (.region [{ dst := some 11, op := .move (.t 3) },
  { dst := some 12, op := .move (.t 0) },
  { dst := some 13, op := .move (.t 4) },
  { dst := some 14, op := .iaddr 3 (.t 12) (.t 13) },
  { dst := some 15, op := .load true 3 (.t 14) },
  { dst := some 16, op := .call 248 [(.t 15)] },
  { dst := some 17, op := .buildSlice 162 3 1 [.v (.int .i64 0), .v (.int .i64 0), .v (.slice none 0 0)] [(0, 3, (.t 16))] },
  { dst := some 18, op := .append 162 3 40 (.t 11) (.t 17) },
  { dst := some 3, op := .move (.t 18) }]))
 (.region [{ dst := some 9, op := .move (.t 4) },
  { dst := some 10, op := .bin .add (.t 9) (.c (.v (.int .i64 1))) },
  { dst := some 4, op := .move (.t 10) }]))))))
 (.seq (.region [{ dst := some 19, op := .move (.t 3) },
  { dst := some 2, op := .move (.t 19) }])
 .ret))))⟩
/-- arras.arrasref16.Moves -/
def F201 : AFun := ⟨true, 22, [.t 2], (.seq (.region [{ dst := some 1, op := .box 27 2 (.t 0) },
  { dst := some 2, op := .move (.c (.v (.slice none 0 0))) }])
 (.seq (.region [{ dst := some 3, op := .move (.c (.v (.slice none 0 0))) }])
 (.seq (.seq (.region [{ dst := some 4, op := .move (.c (.v (.int .i64 0))) }])
 (.block 0 (.loop (.seq (.seq (.region [{ dst := some 5, op := .move (.t 4) },
  { dst := some 6, op := .faddr 1 (.t 1) },
  { dst := some 7, op := .load false 1 (.t 6) },
  { dst := some 8, op := .len (.t 7) },
  { dst := some 9, op := .bin .lss (.t 5) (.t 8) }])
 (.cond (.t 9) .skip (.exit 0)))
 (.seq (.block 1 (.region [{ dst := some 12, op := .move (.t 3) },
  { dst := some 13, op := .faddr 1 (.t 1) },
  { dst := some 14, op := .load false 1 (.t 13) },
  { dst := some 15, op := .move (.t 4) },
  { dst := some 16, op := .iaddr 17 (.t 14) (.t 15) },
  { dst := some 17, op := .faddr 0 (.t 16) },
  { dst := some 18, op := .load true 12 (.t 17) },
  { dst := some 19, op := .buildSlice 75 12 1 [.v (.int .i64 0), .v (.int .i64 0), .v (.int .i64 0), .v (.slice none 0 0), .v (.int .i64 0), .v (.int .i64 0), .v (.int .i64 0), .v (.int .i64 0), .v (.int .i64 0), .v (.string ⟨#[]⟩), .v (.int .i64 0), .v (.int .i64 0)] [(0, 12, (.t 18))] },
  { dst := some 20, op := .append 75 12 120 (.t 12) (.t 19) },
  { dst := some 3, op := .move (.t 20) }]))
 (.region [{ dst := some 10, op := .move (.t 4) },
  { dst := some 11, op := .bin .add (.t 10) (.c (.v (.int .i64 1))) },
  { dst := some 4, op := .move (.t 11) }]))))))
 (.seq (.region [{ dst := some 21, op := .move (.t 3) },
  { dst := some 2, op := .move (.t 21) }])
 .ret))))⟩
/-- arras.arrasref16.Made -/
def F202 : AFun := ⟨false, 33, [.cell 2 true 2], (.seq (.region [{ dst := some 2, op := .alloc 27 [.v (.slice none 0 0), .v (.slice none 0 0)] }])
 (.seq (.region [{ dst := some 7, op := .build [.v (.slice none 0 0), .v (.slice none 0 0)] [] },
  { dst := some 3, op := .alloc 27 [.v (.slice none 0 0), .v (.slice none 0 0)] },
  { dst := none, op := .store 2 (.t 3) (.t 7) }])
 (.seq (.seq (.region [{ dst := some 4, op := .move (.c (.v (.int .i64 0))) }])
 (.block 0 (.loop (.seq (.seq (.region [{ dst := some 8, op := .move (.t 4) },
  { dst := some 9, op := .move (.t 0) },
  { dst := some 10, op := .len (.t 9) },
  { dst := some 11, op := .bin .lss (.t 8) (.t 10) }])
 (.cond (.t 11) .skip (.exit 0)))
 (.seq (.block 1 (.seq (.dregion [{ dst := some 15, op := .faddr 0 (.t 3) },
  { dst := some 16, op := .load false 1 (.t 15) },
  { dst := some 17, op := .move (.t 0) },
  { dst := some 18, op := .move (.t 4) },
  { dst := some 19, op := .iaddr 12 (.t 17) (.t 18) },
  { dst := some 20, op := .load true 12 (.t 19) },
  { dst := some 21, op := .call 249 [(.t 16), (.t 20)] },
  { dst := some 14, op := .move (.t 21) },
  { dst := some 22, op := .ext (.t 14) 0 },
  { dst := some 23, op := .ext (.t 14) 1 },
  { dst := some 6, op := .alloc 200 [.v (.int .i64 0), .v (.int .i64 0), .v (.int .i64 0), .v (.slice none 0 0), .v (.int .i64 0), .v (.int .i64 0), .v (.int .i64 0), .v (.int .i64 0), .v (.int .i64 0), .v (.string ⟨#[]⟩), .v (.int .i64 0), .v (.int .i64 0), .v (.bool false), .v (.int .i64 0), .v (.int .i64 0), .v (.string ⟨#[]⟩), .v (.bool false)], un := [1, 5, 6] },
  { dst := some 5, op := .move (.t 22) },
  { dst := none, op := .store 17 (.t 6) (.t 23) }])
 (.seq (.region [{ dst := some 24, op := .move (.t 5) },
  { dst := some 25, op := .faddr 0 (.t 3) },
  { dst := none, op := .store 1 (.t 25) (.t 24) }])
 (.region [{ dst := some 26, op := .faddr 1 (.t 3) },
  { dst := some 27, op := .load false 1 (.t 26) },
  { dst := some 28, op := .load true 17 (.t 6) },
  { dst := some 29, op := .buildSlice 200 17 1 [.v (.int .i64 0), .v (.int .i64 0), .v (.int .i64 0), .v (.slice none 0 0), .v (.int .i64 0), .v (.int .i64 0), .v (.int .i64 0), .v (.int .i64 0), .v (.int .i64 0), .v (.string ⟨#[]⟩), .v (.int .i64 0), .v (.int .i64 0), .v (.bool false), .v (.int .i64 0), .v (.int .i64 0), .v (.string ⟨#[]⟩), .v (.bool false)] [(0, 17, (.t 28))] },
  { dst := some 30, op := .append 200 17 168 (.t 27) (.t 29) },
  { dst := some 31, op := .faddr 1 (.t 3) },
  { dst := none, op := .store 1 (.t 31) (.t 30) }]))))
 (.region [{ dst := some 12, op := .move (.t 4) },
  { dst := some 13, op := .bin .add (.t 12) (.c (.v (.int .i64 1))) },
  { dst := some 4, op := .move (.t 13) }]))))))
 (.seq (.region [{ dst := some 32, op := .load true 2 (.t 3) },
  { dst := none, op := .store 2 (.t 2) (.t 32) }])
 .ret))))⟩
/-- arras.arrasref0.CopyNodes -/
def F203 : AFun := ⟨true, 19, [.t 2], (.seq (.region [{ dst := some 2, op := .move (.c (.v (.slice none 0 0))) }])
 (.seq (.region [{ dst := some 3, op := .move (.c (.v (.slice none 0 0))) }])
 (.seq (.seq (.region [{ dst := some 4, op := .move (.c (.v (.int .i64 0))) }])
 (.block 0 (.loop (.seq (.seq (.region [{ dst := some 5, op := .move (.t 4) },
  { dst := some 6, op := .move (.t 0) },
  { dst := some 7, op := .len (.t 6) },
  { dst := some 8, op := .bin .lss (.t 5) (.t 7) }])
 (.cond (.t 8) .skip (.exit 0)))
 (.seq (.block 1 (.region [{ dst := some 11, op := .move (.t 3) },
  { dst := some 12, op := .move (.t 0) },
  { dst := some 13, op := .move (.t 4) },
  { dst := some 14, op := .iaddr 5 (.t 12) (.t 13) },
  { dst := some 15, op := .load true 5 (.t 14) },
  { dst := some 16, op := .buildSlice 197 5 1 [.v (.int .i64 0), .v (.int .i64 0), .v (.int .i64 0), .v (.int .i64 0), .v (.string ⟨#[]⟩)] [(0, 5, (.t 15))] },
  { dst := some 17, op := .append 197 5 48 (.t 11) (.t 16) },
  { dst := some 3, op := .move (.t 17) }]))
 (.region [{ dst := some 9, op := .move (.t 4) },
  { dst := some 10, op := .bin .add (.t 9) (.c (.v (.int .i64 1))) },
  { dst := some 4, op := .move (.t 10) }]))))))
 (.seq (.region [{ dst := some 18, op := .move (.t 3) },
  { dst := some 2, op := .move (.t 18) }])
 .ret))))⟩
/-- arras.arrasref0.CopyMoves -/
def F204 : AFun := ⟨true, 20, [.t 2], (.seq (.region [{ dst := some 2, op := .move (.c (.v (.slice none 0 0))) }])
 (.seq (.region [{ dst := some 3, op := .move (.c (.v (.slice none 0 0))) }])
 (.seq (.seq (.region [{ dst := some 4, op := .move (.c (.v (.int .i64 0))) }])
 (.block 0 (.loop (.seq (.seq (.region [{ dst := some 5, op := .move (.t 4) },
  { dst := some 6, op := .move (.t 0) },
  { dst := some 7, op := .len (.t 6) },
  { dst := some 8, op := .bin .lss (.t 5) (.t 7) }])
 (.cond (.t 8) .skip (.exit 0)))
 (.seq (.block 1 (.region [{ dst := some 11, op := .move (.t 3) },
  { dst := some 12, op := .move (.t 0) },
  { dst := some 13, op := .move (.t 4) },
  { dst := some 14, op := .iaddr 17 (.t 12) (.t 13) },
  { dst := some 15, op := .load true 17 (.t 14) },
  { dst := some 16, op := .call 250 [(.t 15)] },
  { dst := some 17, op := .buildSlice 200 17 1 [.v (.int .i64 0), .v (.int .i64 0), .v (.int .i64 0), .v (.slice none 0 0), .v (.int .i64 0), .v (.int .i64 0), .v (.int .i64 0), .v (.int .i64 0), .v (.int .i64 0), .v (.string ⟨#[]⟩), .v (.int .i64 0), .v (.int .i64 0), .v (.bool false), .v (.int .i64 0), .v (.int .i64 0), .v (.string ⟨#[]⟩), .v (.bool false)] [(0, 17, (.t 16))] },
  { dst := some 18, op := .append 200 17 168 (.t 11) (.t 17) },
  { dst := some 3, op := .move (.t 18) }]))
 (.region [{ dst := some 9, op := .move (.t 4) },
  { dst := some 10, op := .bin .add (.t 9) (.c (.v (.int .i64 1))) },
  { dst := some 4, op := .move (.t 10) }]))))))
 (.seq (.region [{ dst := some 19, op := .move (.t 3) },
  { dst := some 2, op := .move (.t 19) }])
 .ret))))⟩
/-- arras.frame.numbers -/
def F205 : AFun := ⟨true, 31, [.t 4, .t 5, .t 6], (.seq (.region [{ dst := some 4, op := .move (.c (.v (.slice none 0 0))) },
  { dst := some 5, op := .move (.c (.v (.slice none 0 0))) },
  { dst := some 6, op := .move (.c (.v (.bool false))) }])
 (.seq (.seq (.region [{ dst := some 10, op := .move (.t 1) },
  { dst := some 11, op := .move (.c (.v (.int .i64 0))) }])
 (.block 0 (.loop (.seq (.region [{ dst := some 12, op := .bin .lss (.t 11) (.t 10) }])
 (.seq (.cond (.t 12) .skip (.exit 0))
 (.seq (.block 1 (.seq (.region [{ dst := some 14, op := .move (.t 0) },
  { dst := some 15, op := .call 251 [(.t 14)] },
  { dst := some 13, op := .move (.t 15) },
  { dst := some 16, op := .ext (.t 13) 0 },
  { dst := some 17, op := .ext (.t 13) 1 },
  { dst := some 18, op := .ext (.t 13) 2 },
  { dst := some 7, op := .move (.t 16) },
  { dst := some 8, op := .move (.t 17) },
  { dst := some 9, op := .move (.t 18) }])
 (.seq (.seq (.region [{ dst := some 19, op := .move (.t 9) },
  { dst := some 20, op := .bin .neq (.t 19) (.c (.v (.int .i64 0))) }])
 (.cond (.t 20) (.seq (.region [{ dst := some 4, op := .move (.c (.v (.slice none 0 0))) },
  { dst := some 5, op := .move (.c (.v (.slice none 0 0))) },
  { dst := some 6, op := .move (.c (.v (.bool false))) }])
 .ret) .skip))
 (.dregion [{ dst := some 21, op := .move (.t 4) },
  { dst := some 22, op := .move (.t 7) },
  { dst := some 23, op := .buildSlice 3 1 1 [.v (.int .i64 0)] [(0, 1, (.t 22))] },
  { dst := some 24, op := .append 3 1 8 (.t 21) (.t 23) },
  { dst := some 25, op := .move (.t 0) },
  { dst := some 26, op := .move (.t 8) },
  { dst := some 27, op := .slice 1 (.t 25) (some (.t 26)) none none },
  { dst := some 4, op := .move (.t 24) },
  { dst := some 0, op := .move (.t 27) }]))))
 (.region [{ dst := some 28, op := .bin .add (.t 11) (.c (.v (.int .i64 1))) },
  { dst := some 11, op := .move (.t 28) }])))))))
 (.seq (.region [{ dst := some 29, op := .move (.t 4) },
  { dst := some 30, op := .move (.t 0) },
  { dst := some 4, op := .move (.t 29) },
  { dst := some 5, op := .move (.t 30) },
  { dst := some 6, op := .move (.c (.v (.bool true))) }])
 .ret)))⟩
/-- arras.have.Take -/
def F206 : AFun := ⟨true, 21, [.t 2, .t 3, .t 4], (.seq (.region [{ dst := some 2, op := .move (.c (.v (.slice none 0 0))) },
  { dst := some 3, op := .move (.c (.v (.int .i64 0))) },
  { dst := some 4, op := .move (.c (.v (.int .i64 0))) }])
 (.seq (.region [{ dst := some 6, op := .move (.t 0) },
  { dst := some 7, op := .call 252 [(.t 6)] },
  { dst := some 5, op := .move (.t 7) },
  { dst := some 8, op := .ext (.t 5) 0 },
  { dst := some 9, op := .ext (.t 5) 1 },
  { dst := some 10, op := .ext (.t 5) 2 },
  { dst := some 2, op := .move (.t 8) },
  { dst := some 3, op := .move (.t 9) },
  { dst := some 4, op := .move (.t 10) }])
 (.seq (.block 0 (.seq (.region [{ dst := some 12, op := .move (.t 4) },
  { dst := some 13, op := .bin .neq (.t 12) (.c (.v (.int .i64 0))) },
  { dst := some 11, op := .move (.t 13) }])
 (.cond (.t 11) (.seq (.region [{ dst := some 14, op := .move (.t 4) },
  { dst := some 2, op := .move (.c (.v (.slice none 0 0))) },
  { dst := some 3, op := .move (.c (.v (.int .i64 0))) },
  { dst := some 4, op := .move (.t 14) }])
 .ret) (.seq (.region [{ dst := some 16, op := .move (.t 2) },
  { dst := some 17, op := .call 76 [(.t 16)] },
  { dst := some 18, op := .un .not (.t 17) },
  { dst := some 15, op := .move (.t 18) }])
 (.cond (.t 15) (.seq (.region [{ dst := some 2, op := .move (.c (.v (.slice none 0 0))) },
  { dst := some 3, op := .move (.c (.v (.int .i64 0))) },
  { dst := some 4, op := .move (.c (.v (.int .i64 1))) }])
 .ret) .skip)))))
 (.seq (.region [{ dst := some 19, op := .move (.t 2) },
  { dst := some 20, op := .move (.t 3) },
  { dst := some 2, op := .move (.t 19) },
  { dst := some 3, op := .move (.t 20) },
  { dst := some 4, op := .move (.c (.v (.int .i64 0))) }])
 .ret))))⟩
/-- arras.frame.ops -/
def F207 : AFun := ⟨true, 21, [.t 2], (.seq (.region [{ dst := some 2, op := .move (.c (.v (.bool false))) }])
 (.scope (.seq (.region [{ dst := some 3, op := .move (.c (.v (.int .i64 0))) }])
 (.seq (.label 0)
 (.seq (.seq (.region [{ dst := some 4, op := .move (.t 3) },
  { dst := some 5, op := .move (.t 0) },
  { dst := some 6, op := .len (.t 5) },
  { dst := some 7, op := .bin .eql (.t 4) (.t 6) }])
 (.cond (.t 7) (.seq (.region [{ dst := some 8, op := .move (.t 3) },
  { dst := some 9, op := .bin .geq (.t 8) (.c (.v (.int .i64 1))) },
  { dst := some 10, op := .move (.t 9) },
  { dst := some 11, op := .move (.t 3), guard := some (10, true) },
  { dst := some 12, op := .bin .leq (.t 11) (.c (.v (.int .i64 8))), guard := some (10, true) },
  { dst := some 13, op := .pick (.t 10) (.t 12) (.c (.v (.bool false))) },
  { dst := some 2, op := .move (.t 13) }])
 .ret) .skip))
 (.seq (.seq (.region [{ dst := some 14, op := .move (.t 0) },
  { dst := some 15, op := .move (.t 3) },
  { dst := some 16, op := .iaddr 12 (.t 14) (.t 15) },
  { dst := some 17, op := .load true 12 (.t 16) },
  { dst := some 18, op := .call 85 [(.t 17)] }])
 (.cond (.t 18) (.seq (.region [{ dst := some 19, op := .move (.t 3) },
  { dst := some 20, op := .bin .add (.t 19) (.c (.v (.int .i64 1))) },
  { dst := some 3, op := .move (.t 20) }])
 (.goto 0)) .skip))
 (.seq (.region [{ dst := some 2, op := .move (.c (.v (.bool false))) }])
 .ret))))) (.seq (.region [{ dst := some 3, op := .move (.c (.v (.int .i64 0))) }])
 (.seq (.label 0)
 (.seq (.seq (.region [{ dst := some 4, op := .move (.t 3) },
  { dst := some 5, op := .move (.t 0) },
  { dst := some 6, op := .len (.t 5) },
  { dst := some 7, op := .bin .eql (.t 4) (.t 6) }])
 (.cond (.t 7) (.seq (.region [{ dst := some 8, op := .move (.t 3) },
  { dst := some 9, op := .bin .geq (.t 8) (.c (.v (.int .i64 1))) },
  { dst := some 10, op := .move (.t 9) },
  { dst := some 11, op := .move (.t 3), guard := some (10, true) },
  { dst := some 12, op := .bin .leq (.t 11) (.c (.v (.int .i64 8))), guard := some (10, true) },
  { dst := some 13, op := .pick (.t 10) (.t 12) (.c (.v (.bool false))) },
  { dst := some 2, op := .move (.t 13) }])
 .ret) .skip))
 (.seq (.seq (.region [{ dst := some 14, op := .move (.t 0) },
  { dst := some 15, op := .move (.t 3) },
  { dst := some 16, op := .iaddr 12 (.t 14) (.t 15) },
  { dst := some 17, op := .load true 12 (.t 16) },
  { dst := some 18, op := .call 85 [(.t 17)] }])
 (.cond (.t 18) (.seq (.region [{ dst := some 19, op := .move (.t 3) },
  { dst := some 20, op := .bin .add (.t 19) (.c (.v (.int .i64 1))) },
  { dst := some 3, op := .move (.t 20) }])
 (.goto 0)) .skip))
 (.seq (.region [{ dst := some 2, op := .move (.c (.v (.bool false))) }])
 .ret)))))))⟩
/-- arras.stamp.Put -/
def F208 : AFun := ⟨false, 12, [.t 4], (.seq (.region [{ dst := some 3, op := .box 41 2 (.t 1) },
  { dst := some 4, op := .move (.c (.v (.slice none 0 0))) }])
 (.seq (.dregion [{ dst := some 5, op := .move (.t 0) },
  { dst := some 6, op := .faddr 0 (.t 3) },
  { dst := some 7, op := .load false 1 (.t 6) },
  { dst := some 8, op := .call 160 [(.t 5), (.t 7)] },
  { dst := some 9, op := .faddr 1 (.t 3) },
  { dst := some 10, op := .load false 1 (.t 9), un := [3] },
  { dst := some 11, op := .call 160 [(.t 8), (.t 10)] },
  { dst := some 4, op := .move (.t 11) }])
 .ret))⟩
/-- arras.code.PutText -/
def F209 : AFun := ⟨false, 11, [.t 4], (.seq (.region [{ dst := some 4, op := .move (.c (.v (.slice none 0 0))) }])
 (.seq (.region [{ dst := some 5, op := .move (.t 0) },
  { dst := some 6, op := .move (.t 1) },
  { dst := some 7, op := .lenS (.t 6) },
  { dst := some 8, op := .call 160 [(.t 5), (.t 7)] },
  { dst := some 9, op := .move (.t 1) },
  { dst := some 10, op := .append 5 1 1 (.t 8) (.t 9) },
  { dst := some 4, op := .move (.t 10) }])
 .ret))⟩
/-- slices.DeleteFunc[[]arras.api.Op,arras.api.Op] -/
def F214 : AFun := ⟨false, 42, [.t 4], (.seq (.region [{ dst := some 4, op := .move (.c (.v (.slice none 0 0))) }])
 (.seq (.region [{ dst := some 8, op := .move (.t 0) },
  { dst := some 9, op := .move (.t 1) },
  { dst := some 10, op := .call 179 [(.t 8), (.t 9)] },
  { dst := some 5, op := .move (.t 10) }])
 (.seq (.seq (.region [{ dst := some 11, op := .move (.t 5) },
  { dst := some 12, op := .bin .eql (.t 11) (.c (.v (.int .i64 (-1)))) }])
 (.cond (.t 12) (.seq (.region [{ dst := some 13, op := .move (.t 0) },
  { dst := some 4, op := .move (.t 13) }])
 .ret) .skip))
 (.seq (.seq (.region [{ dst := some 14, op := .move (.t 5) },
  { dst := some 15, op := .bin .add (.t 14) (.c (.v (.int .i64 1))) },
  { dst := some 6, op := .move (.t 15) }])
 (.block 0 (.loop (.seq (.seq (.region [{ dst := some 16, op := .move (.t 6) },
  { dst := some 17, op := .move (.t 0) },
  { dst := some 18, op := .len (.t 17) },
  { dst := some 19, op := .bin .lss (.t 16) (.t 18) }])
 (.cond (.t 19) .skip (.exit 0)))
 (.seq (.block 1 (.seq (.region [{ dst := some 22, op := .move (.t 0) },
  { dst := some 23, op := .move (.t 6) },
  { dst := some 24, op := .iaddr 12 (.t 22) (.t 23) },
  { dst := some 25, op := .load true 12 (.t 24) },
  { dst := some 7, op := .alloc 75 [.v (.int .i64 0), .v (.int .i64 0), .v (.int .i64 0), .v (.slice none 0 0), .v (.int .i64 0), .v (.int .i64 0), .v (.int .i64 0), .v (.int .i64 0), .v (.int .i64 0), .v (.string ⟨#[]⟩), .v (.int .i64 0), .v (.int .i64 0)] },
  { dst := none, op := .store 12 (.t 7) (.t 25) }])
 (.seq (.region [{ dst := some 26, op := .move (.t 1) },
  { dst := some 27, op := .load true 12 (.t 7) },
  { dst := some 28, op := .callv (.t 26) [(.t 27)] },
  { dst := some 29, op := .un .not (.t 28) }])
 (.cond (.t 29) (.seq (.region [{ dst := some 30, op := .move (.t 0) },
  { dst := some 31, op := .move (.t 5) },
  { dst := some 32, op := .load true 12 (.t 7) },
  { dst := some 33, op := .iaddr 12 (.t 30) (.t 31) },
  { dst := none, op := .store 12 (.t 33) (.t 32) }])
 (.region [{ dst := some 34, op := .move (.t 5) },
  { dst := some 35, op := .bin .add (.t 34) (.c (.v (.int .i64 1))) },
  { dst := some 5, op := .move (.t 35) }])) .skip))))
 (.region [{ dst := some 20, op := .move (.t 6) },
  { dst := some 21, op := .bin .add (.t 20) (.c (.v (.int .i64 1))) },
  { dst := some 6, op := .move (.t 21) }]))))))
 (.seq (.region [{ dst := some 36, op := .move (.t 0) },
  { dst := some 37, op := .move (.t 5) },
  { dst := some 38, op := .slice 12 (.t 36) (some (.t 37)) none none },
  { dst := none, op := .clear 12 [.v (.int .i64 0), .v (.int .i64 0), .v (.int .i64 0), .v (.slice none 0 0), .v (.int .i64 0), .v (.int .i64 0), .v (.int .i64 0), .v (.int .i64 0), .v (.int .i64 0), .v (.string ⟨#[]⟩), .v (.int .i64 0), .v (.int .i64 0)] (.t 38) }])
 (.seq (.region [{ dst := some 39, op := .move (.t 0) },
  { dst := some 40, op := .move (.t 5) },
  { dst := some 41, op := .slice 12 (.t 39) none (some (.t 40)) none },
  { dst := some 4, op := .move (.t 41) }])
 .ret))))))⟩
/-- (*arras.op.reader).read -/
def F220 : AFun := ⟨false, 83, [.cell 2 true 12], (.seq (.region [{ dst := some 2, op := .alloc 75 [.v (.int .i64 0), .v (.int .i64 0), .v (.int .i64 0), .v (.slice none 0 0), .v (.int .i64 0), .v (.int .i64 0), .v (.int .i64 0), .v (.int .i64 0), .v (.int .i64 0), .v (.string ⟨#[]⟩), .v (.int .i64 0), .v (.int .i64 0)] }])
 (.seq (.region [{ dst := some 9, op := .move (.t 0) },
  { dst := some 10, op := .call 262 [(.t 9)] },
  { dst := some 11, op := .faddr 0 (.t 2) },
  { dst := none, op := .store 2 (.t 11) (.t 10) }])
 (.seq (.dregion [{ dst := some 13, op := .move (.t 0) },
  { dst := some 14, op := .nilChk (.t 13) },
  { dst := some 15, op := .faddr 0 (.t 14) },
  { dst := some 16, op := .load false 1 (.t 15) },
  { dst := some 17, op := .move (.t 0) },
  { dst := some 18, op := .nilChk (.t 17) },
  { dst := some 19, op := .faddr 1 (.t 18) },
  { dst := some 20, op := .load false 1 (.t 19) },
  { dst := some 21, op := .slice 1 (.t 16) (some (.t 20)) none none },
  { dst := some 22, op := .call 206 [(.t 21)] },
  { dst := some 12, op := .move (.t 22) },
  { dst := some 23, op := .ext (.t 12) 0 },
  { dst := some 24, op := .ext (.t 12) 1 },
  { dst := some 25, op := .ext (.t 12) 2 },
  { dst := some 3, op := .move (.t 23) },
  { dst := some 4, op := .move (.t 24) },
  { dst := some 5, op := .move (.t 25) }])
 (.seq (.region [{ dst := some 26, op := .move (.t 0) },
  { dst := some 27, op := .move (.t 4) },
  { dst := some 28, op := .move (.t 5) },
  { dst := some 29, op := .call 263 [(.t 26), (.t 27), (.t 28)] }])
 (.seq (.region [{ dst := some 30, op := .move (.t 3) },
  { dst := some 31, op := .faddr 3 (.t 2) },
  { dst := none, op := .store 1 (.t 31) (.t 30) }])
 (.seq (.seq (.region [{ dst := some 32, op := .move (.t 0) },
  { dst := some 33, op := .call 264 [(.t 32)] },
  { dst := some 34, op := .faddr 4 (.t 2) },
  { dst := none, op := .store 1 (.t 34) (.t 33) }])
 (.seq (.region [{ dst := some 35, op := .faddr 4 (.t 2) },
  { dst := some 36, op := .load false 1 (.t 35) },
  { dst := some 37, op := .bin .neq (.t 36) (.c (.v (.int .i64 1))) },
  { dst := some 38, op := .move (.t 37) },
  { dst := some 39, op := .faddr 4 (.t 2), guard := some (38, true) },
  { dst := some 40, op := .load false 1 (.t 39), guard := some (38, true) },
  { dst := some 41, op := .bin .neq (.t 40) (.c (.v (.int .i64 2))), guard := some (38, true) },
  { dst := some 42, op := .pick (.t 38) (.t 41) (.c (.v (.bool false))) }])
 (.cond (.t 42) (.region [{ dst := some 43, op := .move (.t 0) },
  { dst := some 44, op := .call 263 [(.t 43), (.c (.v (.int .i64 0))), (.c (.v (.int .i64 1)))] }]) .skip)))
 (.seq (.seq (.region [{ dst := some 45, op := .move (.t 0) },
  { dst := some 46, op := .call 262 [(.t 45)] },
  { dst := some 47, op := .faddr 5 (.t 2) },
  { dst := none, op := .store 2 (.t 47) (.t 46) }])
 (.seq (.region [{ dst := some 48, op := .faddr 4 (.t 2) },
  { dst := some 49, op := .load false 1 (.t 48) },
  { dst := some 50, op := .bin .eql (.t 49) (.c (.v (.int .i64 1))) }])
 (.cond (.t 50) (.seq (.region [{ dst := some 51, op := .move (.t 0) },
  { dst := some 52, op := .call 262 [(.t 51)] },
  { dst := some 53, op := .faddr 7 (.t 2) },
  { dst := none, op := .store 2 (.t 53) (.t 52) }])
 (.seq (.dregion [{ dst := some 55, op := .move (.t 0) },
  { dst := some 56, op := .nilChk (.t 55) },
  { dst := some 57, op := .faddr 0 (.t 56) },
  { dst := some 58, op := .load false 1 (.t 57) },
  { dst := some 59, op := .move (.t 0) },
  { dst := some 60, op := .nilChk (.t 59) },
  { dst := some 61, op := .faddr 1 (.t 60) },
  { dst := some 62, op := .load false 1 (.t 61) },
  { dst := some 63, op := .slice 1 (.t 58) (some (.t 62)) none none },
  { dst := some 64, op := .call 265 [(.t 63)] },
  { dst := some 54, op := .move (.t 64) },
  { dst := some 65, op := .ext (.t 54) 0 },
  { dst := some 66, op := .ext (.t 54) 1 },
  { dst := some 67, op := .ext (.t 54) 2 },
  { dst := some 6, op := .move (.t 65) },
  { dst := some 7, op := .move (.t 66) },
  { dst := some 8, op := .move (.t 67) }])
 (.seq (.region [{ dst := some 68, op := .move (.t 0) },
  { dst := some 69, op := .move (.t 7) },
  { dst := some 70, op := .move (.t 8) },
  { dst := some 71, op := .call 263 [(.t 68), (.t 69), (.t 70)] }])
 (.seq (.region [{ dst := some 72, op := .move (.t 6) },
  { dst := some 73, op := .faddr 9 (.t 2) },
  { dst := none, op := .store 1 (.t 73) (.t 72) }])
 (.seq (.region [{ dst := some 74, op := .load true 12 (.t 2) },
  { dst := none, op := .store 12 (.t 2) (.t 74) }])
 .ret))))) .skip)))
 (.seq (.region [{ dst := some 75, op := .move (.t 0) },
  { dst := some 76, op := .call 264 [(.t 75)] },
  { dst := some 77, op := .faddr 10 (.t 2) },
  { dst := none, op := .store 1 (.t 77) (.t 76) }])
 (.seq (.region [{ dst := some 78, op := .move (.t 0) },
  { dst := some 79, op := .call 264 [(.t 78)] },
  { dst := some 80, op := .bin .sub (.t 79) (.c (.v (.int .i64 1))) },
  { dst := some 81, op := .faddr 11 (.t 2) },
  { dst := none, op := .store 1 (.t 81) (.t 80) }])
 (.seq (.region [{ dst := some 82, op := .load true 12 (.t 2) },
  { dst := none, op := .store 12 (.t 2) (.t 82) }])
 .ret))))))))))⟩
/-- slices.Clone[[]arras.api.Node,arras.api.Node] -/
def F224 : AFun := ⟨false, 8, [.t 2], (.seq (.region [{ dst := some 2, op := .move (.c (.v (.slice none 0 0))) }])
 (.seq (.seq (.region [{ dst := some 3, op := .move (.t 0) },
  { dst := some 4, op := .eqNilS false (.t 3) }])
 (.cond (.t 4) (.seq (.region [{ dst := some 2, op := .move (.c (.v (.slice none 0 0))) }])
 .ret) .skip))
 (.seq (.region [{ dst := some 5, op := .buildSlice 197 5 0 [.v (.int .i64 0), .v (.int .i64 0), .v (.int .i64 0), .v (.int .i64 0), .v (.string ⟨#[]⟩)] [] },
  { dst := some 6, op := .move (.t 0) },
  { dst := some 7, op := .append 197 5 48 (.t 5) (.t 6) },
  { dst := some 2, op := .move (.t 7) }])
 .ret)))⟩
/-- slices.Clone[[]arras.api.Entry,arras.api.Entry] -/
def F225 : AFun := ⟨false, 8, [.t 2], (.seq (.region [{ dst := some 2, op := .move (.c (.v (.slice none 0 0))) }])
 (.seq (.seq (.region [{ dst := some 3, op := .move (.t 0) },
  { dst := some 4, op := .eqNilS false (.t 3) }])
 (.cond (.t 4) (.seq (.region [{ dst := some 2, op := .move (.c (.v (.slice none 0 0))) }])
 .ret) .skip))
 (.seq (.region [{ dst := some 5, op := .buildSlice 200 17 0 [.v (.int .i64 0), .v (.int .i64 0), .v (.int .i64 0), .v (.slice none 0 0), .v (.int .i64 0), .v (.int .i64 0), .v (.int .i64 0), .v (.int .i64 0), .v (.int .i64 0), .v (.string ⟨#[]⟩), .v (.int .i64 0), .v (.int .i64 0), .v (.bool false), .v (.int .i64 0), .v (.int .i64 0), .v (.string ⟨#[]⟩), .v (.bool false)] [] },
  { dst := some 6, op := .move (.t 0) },
  { dst := some 7, op := .append 200 17 168 (.t 5) (.t 6) },
  { dst := some 2, op := .move (.t 7) }])
 .ret)))⟩
/-- cmp.Or[int] -/
def F226 : AFun := ⟨true, 18, [.t 2], (.seq (.region [{ dst := some 2, op := .move (.c (.v (.int .i64 0))) }])
 (.seq (.region [{ dst := some 3, op := .move (.c (.v (.int .i64 0))) }])
 (.seq (.seq (.region [{ dst := some 6, op := .move (.t 0) },
  { dst := some 7, op := .len (.t 6) },
  { dst := some 8, op := .move (.c (.v (.int .i64 0))) }])
 (.block 0 (.loop (.seq (.region [{ dst := some 9, op := .bin .lss (.t 8) (.t 7) }])
 (.seq (.cond (.t 9) .skip (.exit 0))
 (.seq (.block 1 (.seq (.region [{ dst := some 10, op := .iaddr 1 (.t 6) (.t 8) },
  { dst := some 11, op := .load false 1 (.t 10) },
  { dst := some 5, op := .move (.t 11) }])
 (.seq (.region [{ dst := some 12, op := .move (.t 5) },
  { dst := some 13, op := .move (.t 3) },
  { dst := some 14, op := .bin .neq (.t 12) (.t 13) }])
 (.cond (.t 14) (.seq (.region [{ dst := some 15, op := .move (.t 5) },
  { dst := some 2, op := .move (.t 15) }])
 .ret) .skip))))
 (.region [{ dst := some 16, op := .bin .add (.t 8) (.c (.v (.int .i64 1))) },
  { dst := some 8, op := .move (.t 16) }])))))))
 (.seq (.region [{ dst := some 17, op := .move (.t 3) },
  { dst := some 2, op := .move (.t 17) }])
 .ret))))⟩
/-- cmp.Compare[int] -/
def F227 : AFun := ⟨true, 20, [.t 4], (.seq (.region [{ dst := some 4, op := .move (.c (.v (.int .i64 0))) }])
 (.seq (.region [{ dst := some 7, op := .move (.t 0) },
  { dst := some 8, op := .call 269 [(.t 7)] },
  { dst := some 5, op := .move (.t 8) }])
 (.seq (.region [{ dst := some 9, op := .move (.t 1) },
  { dst := some 10, op := .call 269 [(.t 9)] },
  { dst := some 6, op := .move (.t 10) }])
 (.seq (.seq (.region [{ dst := some 11, op := .move (.t 5) }])
 (.cond (.t 11) (.seq (.seq (.region [{ dst := some 12, op := .move (.t 6) }])
 (.cond (.t 12) (.seq (.region [{ dst := some 4, op := .move (.c (.v (.int .i64 0))) }])
 .ret) .skip))
 (.seq (.region [{ dst := some 4, op := .move (.c (.v (.int .i64 (-1)))) }])
 .ret)) .skip))
 (.seq (.seq (.region [{ dst := some 13, op := .move (.t 6) }])
 (.cond (.t 13) (.seq (.region [{ dst := some 4, op := .move (.c (.v (.int .i64 1))) }])
 .ret) .skip))
 (.seq (.seq (.region [{ dst := some 14, op := .move (.t 0) },
  { dst := some 15, op := .move (.t 1) },
  { dst := some 16, op := .bin .lss (.t 14) (.t 15) }])
 (.cond (.t 16) (.seq (.region [{ dst := some 4, op := .move (.c (.v (.int .i64 (-1)))) }])
 .ret) .skip))
 (.seq (.seq (.region [{ dst := some 17, op := .move (.t 0) },
  { dst := some 18, op := .move (.t 1) },
  { dst := some 19, op := .bin .gtr (.t 17) (.t 18) }])
 (.cond (.t 19) (.seq (.region [{ dst := some 4, op := .move (.c (.v (.int .i64 1))) }])
 .ret) .skip))
 (.seq (.region [{ dst := some 4, op := .move (.c (.v (.int .i64 0))) }])
 .ret))))))))⟩
/-- arras.tree.find -/
def F228 : AFun := ⟨true, 11, [.t 4, .t 5], (.seq (.region [{ dst := some 3, op := .box 41 2 (.t 1) },
  { dst := some 4, op := .move (.c (.v (.int .i64 0))) },
  { dst := some 5, op := .move (.c (.v (.bool false))) }])
 (.seq (.region [{ dst := some 6, op := .move (.t 0) },
  { dst := some 7, op := .load true 2 (.t 3) },
  { dst := some 8, op := .call 270 [(.t 6), (.t 7), (.c (.fn 271 []))] },
  { dst := some 9, op := .ext (.t 8) 0 },
  { dst := some 10, op := .ext (.t 8) 1 },
  { dst := some 4, op := .move (.t 9) },
  { dst := some 5, op := .move (.t 10) }])
 .ret))⟩
/-- arras.tree.Lives -/
def F230 : AFun := ⟨true, 27, [.t 4], (.seq (.region [{ dst := some 2, op := .box 27 2 (.t 0) },
  { dst := some 3, op := .box 41 2 (.t 1) },
  { dst := some 4, op := .move (.c (.v (.bool false))) }])
 (.seq (.region [{ dst := some 6, op := .load true 2 (.t 2) },
  { dst := some 7, op := .load true 2 (.t 3) },
  { dst := some 8, op := .call 237 [(.t 6), (.t 7)] },
  { dst := some 5, op := .move (.t 8) }])
 (.seq (.dregion [{ dst := some 9, op := .load true 2 (.t 3) },
  { dst := some 10, op := .call 189 [] },
  { dst := some 11, op := .eqAgg false [1, 1] (.t 9) (.t 10) },
  { dst := some 12, op := .move (.t 11) },
  { dst := some 13, op := .move (.t 5), guard := some (12, false) },
  { dst := some 14, op := .len (.t 13), guard := some (12, false) },
  { dst := some 15, op := .bin .gtr (.t 14) (.c (.v (.int .i64 0))), guard := some (12, false) },
  { dst := some 16, op := .move (.t 15), guard := some (12, false) },
  { dst := some 17, op := .move (.t 5), guard := some (16, true) },
  { dst := some 18, op := .move (.t 5), guard := some (16, true) },
  { dst := some 19, op := .len (.t 18), guard := some (16, true) },
  { dst := some 20, op := .bin .sub (.t 19) (.c (.v (.int .i64 1))), guard := some (16, true) },
  { dst := some 21, op := .iaddr 2 (.t 17) (.t 20), guard := some (16, true) },
  { dst := some 22, op := .load true 2 (.t 21), guard := some (16, true) },
  { dst := some 23, op := .call 189 [], guard := some (16, true) },
  { dst := some 24, op := .eqAgg false [1, 1] (.t 22) (.t 23), guard := some (16, true) },
  { dst := some 25, op := .pick (.t 16) (.t 24) (.c (.v (.bool false))), guard := some (12, false) },
  { dst := some 26, op := .pick (.t 12) (.c (.v (.bool true))) (.t 25) },
  { dst := some 4, op := .move (.t 26) }])
 .ret)))⟩
/-- arras.tree.Children -/
def F231 : AFun := ⟨true, 26, [.t 4], (.seq (.region [{ dst := some 2, op := .box 27 2 (.t 0) },
  { dst := some 3, op := .box 41 2 (.t 1) },
  { dst := some 4, op := .move (.c (.v (.slice none 0 0))) }])
 (.seq (.seq (.region [{ dst := some 7, op := .faddr 0 (.t 2) },
  { dst := some 8, op := .load false 1 (.t 7) },
  { dst := some 9, op := .len (.t 8) },
  { dst := some 10, op := .move (.c (.v (.int .i64 0))) }])
 (.block 0 (.loop (.seq (.region [{ dst := some 11, op := .bin .lss (.t 10) (.t 9) }])
 (.seq (.cond (.t 11) .skip (.exit 0))
 (.seq (.block 1 (.seq (.region [{ dst := some 12, op := .iaddr 5 (.t 8) (.t 10) },
  { dst := some 13, op := .load true 5 (.t 12) },
  { dst := some 6, op := .alloc 197 [.v (.int .i64 0), .v (.int .i64 0), .v (.int .i64 0), .v (.int .i64 0), .v (.string ⟨#[]⟩)] },
  { dst := none, op := .store 5 (.t 6) (.t 13) }])
 (.seq (.region [{ dst := some 14, op := .faddr 2 (.t 6) },
  { dst := some 15, op := .load true 2 (.t 14) },
  { dst := some 16, op := .load true 2 (.t 3) },
  { dst := some 17, op := .eqAgg false [1, 1] (.t 15) (.t 16) }])
 (.cond (.t 17) (.region [{ dst := some 18, op := .move (.t 4) },
  { dst := some 19, op := .load true 5 (.t 6) },
  { dst := some 20, op := .buildSlice 197 5 1 [.v (.int .i64 0), .v (.int .i64 0), .v (.int .i64 0), .v (.int .i64 0), .v (.string ⟨#[]⟩)] [(0, 5, (.t 19))] },
  { dst := some 21, op := .append 197 5 48 (.t 18) (.t 20) },
  { dst := some 4, op := .move (.t 21) }]) .skip))))
 (.region [{ dst := some 22, op := .bin .add (.t 10) (.c (.v (.int .i64 1))) },
  { dst := some 10, op := .move (.t 22) }])))))))
 (.seq (.region [{ dst := some 23, op := .move (.t 4) },
  { dst := some 24, op := .call 272 [(.t 23), (.c (.fn 273 []))] }])
 (.seq (.region [{ dst := some 25, op := .move (.t 4) },
  { dst := some 4, op := .move (.t 25) }])
 .ret))))⟩
/-- arras.key.Between -/
def F234 : AFun := ⟨true, 73, [.t 4, .t 5], (.seq (.region [{ dst := some 4, op := .move (.c (.v (.string ⟨#[]⟩))) },
  { dst := some 5, op := .move (.c (.v (.int .i64 0))) }])
 (.scope (.seq (.seq (.region [{ dst := some 11, op := .move (.t 0) },
  { dst := some 12, op := .bin .neq (.t 11) (.c (.v (.string ⟨#[]⟩))) },
  { dst := some 13, op := .move (.t 12) },
  { dst := some 14, op := .move (.t 0), guard := some (13, true) },
  { dst := some 15, op := .call 192 [(.t 14)], guard := some (13, true) },
  { dst := some 16, op := .un .not (.t 15), guard := some (13, true) },
  { dst := some 17, op := .pick (.t 13) (.t 16) (.c (.v (.bool false))) },
  { dst := some 18, op := .move (.t 17) },
  { dst := some 19, op := .move (.t 1), guard := some (18, false) },
  { dst := some 20, op := .bin .neq (.t 19) (.c (.v (.string ⟨#[]⟩))), guard := some (18, false) },
  { dst := some 21, op := .move (.t 20), guard := some (18, false) },
  { dst := some 22, op := .move (.t 1), guard := some (21, true) },
  { dst := some 23, op := .call 192 [(.t 22)], guard := some (21, true) },
  { dst := some 24, op := .un .not (.t 23), guard := some (21, true) },
  { dst := some 25, op := .move (.t 24), guard := some (21, true) },
  { dst := some 26, op := .move (.t 0), guard := some (25, false) },
  { dst := some 27, op := .move (.t 1), guard := some (25, false) },
  { dst := some 28, op := .bin .geq (.t 26) (.t 27), guard := some (25, false) },
  { dst := some 29, op := .pick (.t 25) (.c (.v (.bool true))) (.t 28), guard := some (21, true) },
  { dst := some 30, op := .pick (.t 21) (.t 29) (.c (.v (.bool false))), guard := some (18, false) },
  { dst := some 31, op := .pick (.t 18) (.c (.v (.bool true))) (.t 30) }])
 (.cond (.t 31) (.seq (.region [{ dst := some 4, op := .move (.c (.v (.string ⟨#[]⟩))) },
  { dst := some 5, op := .move (.c (.v (.int .i64 1))) }])
 .ret) .skip))
 (.seq (.region [{ dst := some 6, op := .move (.c (.v (.slice none 0 0))) }])
 (.seq (.region [{ dst := some 7, op := .move (.c (.v (.int .i64 0))) }])
 (.seq (.region [{ dst := some 32, op := .move (.t 1) },
  { dst := some 33, op := .bin .eql (.t 32) (.c (.v (.string ⟨#[]⟩))) },
  { dst := some 8, op := .move (.t 33) }])
 (.seq (.label 0)
 (.seq (.seq (.region [{ dst := some 34, op := .move (.t 7) },
  { dst := some 35, op := .bin .eql (.t 34) (.c (.v (.int .i64 64))) }])
 (.cond (.t 35) (.seq (.region [{ dst := some 4, op := .move (.c (.v (.string ⟨#[]⟩))) },
  { dst := some 5, op := .move (.c (.v (.int .i64 5))) }])
 .ret) .skip))
 (.seq (.region [{ dst := some 36, op := .move (.t 0) },
  { dst := some 37, op := .move (.t 7) },
  { dst := some 38, op := .call 275 [(.t 36), (.t 37), (.c (.v (.int .i64 0)))] },
  { dst := some 9, op := .move (.t 38) },
  { dst := some 10, op := .move (.c (.v (.int .i64 256))) }])
 (.seq (.seq (.region [{ dst := some 39, op := .move (.t 8) },
  { dst := some 40, op := .un .not (.t 39) }])
 (.cond (.t 40) (.region [{ dst := some 41, op := .move (.t 1) },
  { dst := some 42, op := .move (.t 7) },
  { dst := some 43, op := .call 275 [(.t 41), (.t 42), (.c (.v (.int .i64 256)))] },
  { dst := some 10, op := .move (.t 43) }]) .skip))
 (.seq (.seq (.region [{ dst := some 44, op := .move (.t 10) },
  { dst := some 45, op := .move (.t 9) },
  { dst := some 46, op := .bin .add (.t 45) (.c (.v (.int .i64 2))) },
  { dst := some 47, op := .bin .geq (.t 44) (.t 46) }])
 (.cond (.t 47) (.seq (.region [{ dst := some 48, op := .move (.t 6) },
  { dst := some 49, op := .move (.t 9) },
  { dst := some 50, op := .move (.t 10) },
  { dst := some 51, op := .move (.t 9) },
  { dst := some 52, op := .bin .sub (.t 50) (.t 51) },
  { dst := some 53, op := .bin .quo (.t 52) (.c (.v (.int .i64 2))) },
  { dst := some 54, op := .bin .add (.t 49) (.t 53) },
  { dst := some 55, op := .conv .u8 (.t 54) },
  { dst := some 56, op := .buildSlice 5 1 1 [.v (.int .u8 0)] [(0, 1, (.t 55))] },
  { dst := some 57, op := .append 5 1 1 (.t 48) (.t 56) },
  { dst := some 58, op := .b2s (.t 57) },
  { dst := some 4, op := .move (.t 58) },
  { dst := some 5, op := .move (.c (.v (.int .i64 0))) }])
 .ret) .skip))
 (.seq (.region [{ dst := some 59, op := .move (.t 6) },
  { dst := some 60, op := .move (.t 9) },
  { dst := some 61, op := .conv .u8 (.t 60) },
  { dst := some 62, op := .buildSlice 5 1 1 [.v (.int .u8 0)] [(0, 1, (.t 61))] },
  { dst := some 63, op := .append 5 1 1 (.t 59) (.t 62) },
  { dst := some 6, op := .move (.t 63) }])
 (.seq (.region [{ dst := some 64, op := .move (.t 8) },
  { dst := some 65, op := .move (.t 64) },
  { dst := some 66, op := .move (.t 10), guard := some (65, false) },
  { dst := some 67, op := .move (.t 9), guard := some (65, false) },
  { dst := some 68, op := .bin .add (.t 67) (.c (.v (.int .i64 1))), guard := some (65, false) },
  { dst := some 69, op := .bin .eql (.t 66) (.t 68), guard := some (65, false) },
  { dst := some 70, op := .pick (.t 65) (.c (.v (.bool true))) (.t 69) },
  { dst := some 8, op := .move (.t 70) }])
 (.seq (.region [{ dst := some 71, op := .move (.t 7) },
  { dst := some 72, op := .bin .add (.t 71) (.c (.v (.int .i64 1))) },
  { dst := some 7, op := .move (.t 72) }])
 (.goto 0))))))))))))) (.seq (.seq (.region [{ dst := some 11, op := .move (.t 0) },
  { dst := some 12, op := .bin .neq (.t 11) (.c (.v (.string ⟨#[]⟩))) },
  { dst := some 13, op := .move (.t 12) },
  { dst := some 14, op := .move (.t 0), guard := some (13, true) },
  { dst := some 15, op := .call 192 [(.t 14)], guard := some (13, true) },
  { dst := some 16, op := .un .not (.t 15), guard := some (13, true) },
  { dst := some 17, op := .pick (.t 13) (.t 16) (.c (.v (.bool false))) },
  { dst := some 18, op := .move (.t 17) },
  { dst := some 19, op := .move (.t 1), guard := some (18, false) },
  { dst := some 20, op := .bin .neq (.t 19) (.c (.v (.string ⟨#[]⟩))), guard := some (18, false) },
  { dst := some 21, op := .move (.t 20), guard := some (18, false) },
  { dst := some 22, op := .move (.t 1), guard := some (21, true) },
  { dst := some 23, op := .call 192 [(.t 22)], guard := some (21, true) },
  { dst := some 24, op := .un .not (.t 23), guard := some (21, true) },
  { dst := some 25, op := .move (.t 24), guard := some (21, true) },
  { dst := some 26, op := .move (.t 0), guard := some (25, false) },
  { dst := some 27, op := .move (.t 1), guard := some (25, false) },
  { dst := some 28, op := .bin .geq (.t 26) (.t 27), guard := some (25, false) },
  { dst := some 29, op := .pick (.t 25) (.c (.v (.bool true))) (.t 28), guard := some (21, true) },
  { dst := some 30, op := .pick (.t 21) (.t 29) (.c (.v (.bool false))), guard := some (18, false) },
  { dst := some 31, op := .pick (.t 18) (.c (.v (.bool true))) (.t 30) }])
 (.cond (.t 31) (.seq (.region [{ dst := some 4, op := .move (.c (.v (.string ⟨#[]⟩))) },
  { dst := some 5, op := .move (.c (.v (.int .i64 1))) }])
 .ret) .skip))
 (.seq (.region [{ dst := some 6, op := .move (.c (.v (.slice none 0 0))) }])
 (.seq (.region [{ dst := some 7, op := .move (.c (.v (.int .i64 0))) }])
 (.seq (.region [{ dst := some 32, op := .move (.t 1) },
  { dst := some 33, op := .bin .eql (.t 32) (.c (.v (.string ⟨#[]⟩))) },
  { dst := some 8, op := .move (.t 33) }])
 (.seq (.label 0)
 (.seq (.seq (.region [{ dst := some 34, op := .move (.t 7) },
  { dst := some 35, op := .bin .eql (.t 34) (.c (.v (.int .i64 64))) }])
 (.cond (.t 35) (.seq (.region [{ dst := some 4, op := .move (.c (.v (.string ⟨#[]⟩))) },
  { dst := some 5, op := .move (.c (.v (.int .i64 5))) }])
 .ret) .skip))
 (.seq (.region [{ dst := some 36, op := .move (.t 0) },
  { dst := some 37, op := .move (.t 7) },
  { dst := some 38, op := .call 275 [(.t 36), (.t 37), (.c (.v (.int .i64 0)))] },
  { dst := some 9, op := .move (.t 38) },
  { dst := some 10, op := .move (.c (.v (.int .i64 256))) }])
 (.seq (.seq (.region [{ dst := some 39, op := .move (.t 8) },
  { dst := some 40, op := .un .not (.t 39) }])
 (.cond (.t 40) (.region [{ dst := some 41, op := .move (.t 1) },
  { dst := some 42, op := .move (.t 7) },
  { dst := some 43, op := .call 275 [(.t 41), (.t 42), (.c (.v (.int .i64 256)))] },
  { dst := some 10, op := .move (.t 43) }]) .skip))
 (.seq (.seq (.region [{ dst := some 44, op := .move (.t 10) },
  { dst := some 45, op := .move (.t 9) },
  { dst := some 46, op := .bin .add (.t 45) (.c (.v (.int .i64 2))) },
  { dst := some 47, op := .bin .geq (.t 44) (.t 46) }])
 (.cond (.t 47) (.seq (.region [{ dst := some 48, op := .move (.t 6) },
  { dst := some 49, op := .move (.t 9) },
  { dst := some 50, op := .move (.t 10) },
  { dst := some 51, op := .move (.t 9) },
  { dst := some 52, op := .bin .sub (.t 50) (.t 51) },
  { dst := some 53, op := .bin .quo (.t 52) (.c (.v (.int .i64 2))) },
  { dst := some 54, op := .bin .add (.t 49) (.t 53) },
  { dst := some 55, op := .conv .u8 (.t 54) },
  { dst := some 56, op := .buildSlice 5 1 1 [.v (.int .u8 0)] [(0, 1, (.t 55))] },
  { dst := some 57, op := .append 5 1 1 (.t 48) (.t 56) },
  { dst := some 58, op := .b2s (.t 57) },
  { dst := some 4, op := .move (.t 58) },
  { dst := some 5, op := .move (.c (.v (.int .i64 0))) }])
 .ret) .skip))
 (.seq (.region [{ dst := some 59, op := .move (.t 6) },
  { dst := some 60, op := .move (.t 9) },
  { dst := some 61, op := .conv .u8 (.t 60) },
  { dst := some 62, op := .buildSlice 5 1 1 [.v (.int .u8 0)] [(0, 1, (.t 61))] },
  { dst := some 63, op := .append 5 1 1 (.t 59) (.t 62) },
  { dst := some 6, op := .move (.t 63) }])
 (.seq (.region [{ dst := some 64, op := .move (.t 8) },
  { dst := some 65, op := .move (.t 64) },
  { dst := some 66, op := .move (.t 10), guard := some (65, false) },
  { dst := some 67, op := .move (.t 9), guard := some (65, false) },
  { dst := some 68, op := .bin .add (.t 67) (.c (.v (.int .i64 1))), guard := some (65, false) },
  { dst := some 69, op := .bin .eql (.t 66) (.t 68), guard := some (65, false) },
  { dst := some 70, op := .pick (.t 65) (.c (.v (.bool true))) (.t 69) },
  { dst := some 8, op := .move (.t 70) }])
 (.seq (.region [{ dst := some 71, op := .move (.t 7) },
  { dst := some 72, op := .bin .add (.t 71) (.c (.v (.int .i64 1))) },
  { dst := some 7, op := .move (.t 72) }])
 (.goto 0)))))))))))))))⟩
/-- arras.shape.living -/
def F236 : AFun := ⟨true, 20, [.t 2], (.seq (.region [{ dst := some 1, op := .box 27 2 (.t 0) },
  { dst := some 2, op := .move (.c (.v (.int .i64 0))) }])
 (.seq (.seq (.region [{ dst := some 5, op := .faddr 0 (.t 1) },
  { dst := some 6, op := .load false 1 (.t 5) },
  { dst := some 7, op := .len (.t 6) },
  { dst := some 8, op := .move (.c (.v (.int .i64 0))) }])
 (.block 0 (.loop (.seq (.region [{ dst := some 9, op := .bin .lss (.t 8) (.t 7) }])
 (.seq (.cond (.t 9) .skip (.exit 0))
 (.seq (.block 1 (.seq (.region [{ dst := some 10, op := .iaddr 5 (.t 6) (.t 8) },
  { dst := some 11, op := .load true 5 (.t 10) },
  { dst := some 4, op := .alloc 197 [.v (.int .i64 0), .v (.int .i64 0), .v (.int .i64 0), .v (.int .i64 0), .v (.string ⟨#[]⟩)] },
  { dst := none, op := .store 5 (.t 4) (.t 11) }])
 (.seq (.region [{ dst := some 12, op := .load true 2 (.t 1) },
  { dst := some 13, op := .faddr 0 (.t 4) },
  { dst := some 14, op := .load true 2 (.t 13) },
  { dst := some 15, op := .call 230 [(.t 12), (.t 14)] }])
 (.cond (.t 15) (.region [{ dst := some 16, op := .move (.t 2) },
  { dst := some 17, op := .bin .add (.t 16) (.c (.v (.int .i64 1))) },
  { dst := some 2, op := .move (.t 17) }]) .skip))))
 (.region [{ dst := some 18, op := .bin .add (.t 8) (.c (.v (.int .i64 1))) },
  { dst := some 8, op := .move (.t 18) }])))))))
 (.seq (.region [{ dst := some 19, op := .move (.t 2) },
  { dst := some 2, op := .move (.t 19) }])
 .ret)))⟩
/-- arras.tree.Up -/
def F237 : AFun := ⟨true, 21, [.t 4], (.seq (.region [{ dst := some 2, op := .box 27 2 (.t 0) },
  { dst := some 3, op := .box 41 2 (.t 1) },
  { dst := some 4, op := .move (.c (.v (.slice none 0 0))) }])
 (.scope (.seq (.region [{ dst := some 5, op := .alloc 197 [.v (.int .i64 0), .v (.int .i64 0), .v (.int .i64 0), .v (.int .i64 0), .v (.string ⟨#[]⟩)] }])
 (.seq (.region [{ dst := some 6, op := .move (.c (.v (.bool false))) }])
 (.seq (.label 0)
 (.seq (.seq (.region [{ dst := some 8, op := .load true 2 (.t 2) },
  { dst := some 9, op := .load true 2 (.t 3) },
  { dst := some 10, op := .call 181 [(.t 8), (.t 9)] },
  { dst := some 7, op := .move (.t 10) },
  { dst := some 11, op := .ext (.t 7) 0 },
  { dst := some 12, op := .ext (.t 7) 1 },
  { dst := none, op := .store 5 (.t 5) (.t 11) },
  { dst := some 6, op := .move (.t 12) }])
 (.seq (.region [{ dst := some 13, op := .move (.t 6) }])
 (.cond (.t 13) (.seq (.region [{ dst := some 14, op := .faddr 2 (.t 5) },
  { dst := some 15, op := .load true 2 (.t 14) },
  { dst := none, op := .store 2 (.t 3) (.t 15) }])
 (.seq (.region [{ dst := some 16, op := .move (.t 4) },
  { dst := some 17, op := .load true 2 (.t 3) },
  { dst := some 18, op := .buildSlice 41 2 1 [.v (.int .i64 0), .v (.int .i64 0)] [(0, 2, (.t 17))] },
  { dst := some 19, op := .append 41 2 16 (.t 16) (.t 18) },
  { dst := some 4, op := .move (.t 19) }])
 (.goto 0))) .skip)))
 (.seq (.region [{ dst := some 20, op := .move (.t 4) },
  { dst := some 4, op := .move (.t 20) }])
 .ret))))) (.seq (.region [{ dst := some 5, op := .alloc 197 [.v (.int .i64 0), .v (.int .i64 0), .v (.int .i64 0), .v (.int .i64 0), .v (.string ⟨#[]⟩)] }])
 (.seq (.region [{ dst := some 6, op := .move (.c (.v (.bool false))) }])
 (.seq (.label 0)
 (.seq (.seq (.region [{ dst := some 8, op := .load true 2 (.t 2) },
  { dst := some 9, op := .load true 2 (.t 3) },
  { dst := some 10, op := .call 181 [(.t 8), (.t 9)] },
  { dst := some 7, op := .move (.t 10) },
  { dst := some 11, op := .ext (.t 7) 0 },
  { dst := some 12, op := .ext (.t 7) 1 },
  { dst := none, op := .store 5 (.t 5) (.t 11) },
  { dst := some 6, op := .move (.t 12) }])
 (.seq (.region [{ dst := some 13, op := .move (.t 6) }])
 (.cond (.t 13) (.seq (.region [{ dst := some 14, op := .faddr 2 (.t 5) },
  { dst := some 15, op := .load true 2 (.t 14) },
  { dst := none, op := .store 2 (.t 3) (.t 15) }])
 (.seq (.region [{ dst := some 16, op := .move (.t 4) },
  { dst := some 17, op := .load true 2 (.t 3) },
  { dst := some 18, op := .buildSlice 41 2 1 [.v (.int .i64 0), .v (.int .i64 0)] [(0, 2, (.t 17))] },
  { dst := some 19, op := .append 41 2 16 (.t 16) (.t 18) },
  { dst := some 4, op := .move (.t 19) }])
 (.goto 0))) .skip)))
 (.seq (.region [{ dst := some 20, op := .move (.t 4) },
  { dst := some 4, op := .move (.t 20) }])
 .ret)))))))⟩
/-- arras.shape.tall -/
def F238 : AFun := ⟨true, 25, [.t 4], (.seq (.region [{ dst := some 2, op := .box 27 2 (.t 0) },
  { dst := some 3, op := .box 41 2 (.t 1) },
  { dst := some 4, op := .move (.c (.v (.int .i64 0))) }])
 (.seq (.region [{ dst := some 5, op := .move (.c (.v (.int .i64 0))) }])
 (.seq (.seq (.region [{ dst := some 8, op := .load true 2 (.t 2) },
  { dst := some 9, op := .load true 2 (.t 3) },
  { dst := some 10, op := .call 231 [(.t 8), (.t 9)] },
  { dst := some 11, op := .len (.t 10) },
  { dst := some 12, op := .move (.c (.v (.int .i64 0))) }])
 (.block 0 (.loop (.seq (.region [{ dst := some 13, op := .bin .lss (.t 12) (.t 11) }])
 (.seq (.cond (.t 13) .skip (.exit 0))
 (.seq (.block 1 (.seq (.region [{ dst := some 14, op := .iaddr 5 (.t 10) (.t 12) },
  { dst := some 15, op := .load true 5 (.t 14) },
  { dst := some 7, op := .alloc 197 [.v (.int .i64 0), .v (.int .i64 0), .v (.int .i64 0), .v (.int .i64 0), .v (.string ⟨#[]⟩)] },
  { dst := none, op := .store 5 (.t 7) (.t 15) }])
 (.region [{ dst := some 16, op := .move (.t 5) },
  { dst := some 17, op := .load true 2 (.t 2) },
  { dst := some 18, op := .faddr 0 (.t 7) },
  { dst := some 19, op := .load true 2 (.t 18) },
  { dst := some 20, op := .call 238 [(.t 17), (.t 19)] },
  { dst := some 21, op := .max [(.t 16), (.t 20)] },
  { dst := some 5, op := .move (.t 21) }])))
 (.region [{ dst := some 22, op := .bin .add (.t 12) (.c (.v (.int .i64 1))) },
  { dst := some 12, op := .move (.t 22) }])))))))
 (.seq (.region [{ dst := some 23, op := .move (.t 5) },
  { dst := some 24, op := .bin .add (.t 23) (.c (.v (.int .i64 1))) },
  { dst := some 4, op := .move (.t 24) }])
 .ret))))⟩
/-- slices.IndexFunc[[]arras.api.Entry,arras.api.Entry] -/
def F243 : AFun := ⟨true, 19, [.t 4], (.seq (.region [{ dst := some 4, op := .move (.c (.v (.int .i64 0))) }])
 (.seq (.seq (.region [{ dst := some 6, op := .move (.t 0) },
  { dst := some 7, op := .len (.t 6) },
  { dst := some 8, op := .move (.c (.v (.int .i64 0))) }])
 (.block 0 (.loop (.seq (.region [{ dst := some 9, op := .bin .lss (.t 8) (.t 7) }])
 (.seq (.cond (.t 9) .skip (.exit 0))
 (.seq (.block 1 (.seq (.region [{ dst := some 10, op := .move (.t 8) },
  { dst := some 5, op := .move (.t 10) }])
 (.seq (.region [{ dst := some 11, op := .move (.t 1) },
  { dst := some 12, op := .move (.t 0) },
  { dst := some 13, op := .move (.t 5) },
  { dst := some 14, op := .iaddr 17 (.t 12) (.t 13) },
  { dst := some 15, op := .load true 17 (.t 14) },
  { dst := some 16, op := .callv (.t 11) [(.t 15)] }])
 (.cond (.t 16) (.seq (.region [{ dst := some 17, op := .move (.t 5) },
  { dst := some 4, op := .move (.t 17) }])
 .ret) .skip))))
 (.region [{ dst := some 18, op := .bin .add (.t 8) (.c (.v (.int .i64 1))) },
  { dst := some 8, op := .move (.t 18) }])))))))
 (.seq (.region [{ dst := some 4, op := .move (.c (.v (.int .i64 (-1)))) }])
 .ret)))⟩
/-- arras.tree.Put -/
def F244 : AFun := ⟨false, 105, [.cell 4 true 2, .t 5], (.seq (.region [{ dst := some 2, op := .box 27 2 (.t 0) },
  { dst := some 3, op := .box 75 12 (.t 1) },
  { dst := some 4, op := .alloc 27 [.v (.slice none 0 0), .v (.slice none 0 0)] },
  { dst := some 5, op := .move (.c (.v (.int .i64 0))) }])
 (.scope (.seq (.region [{ dst := some 13, op := .faddr 0 (.t 2) },
  { dst := some 14, op := .load false 1 (.t 13) },
  { dst := some 15, op := .build [.v (.slice none 0 0)] [(0, 1, (.t 14))] },
  { dst := some 16, op := .box 355 1 (.t 15) },
  { dst := some 6, op := .move (.t 16) }])
 (.seq (.region [{ dst := some 17, op := .faddr 1 (.t 2) },
  { dst := some 18, op := .load false 1 (.t 17) },
  { dst := some 19, op := .len (.t 18) },
  { dst := some 7, op := .move (.t 19) }])
 (.seq (.region [{ dst := some 8, op := .move (.c (.v (.slice none 0 0))) }])
 (.seq (.label 0)
 (.seq (.seq (.dregion [{ dst := some 20, op := .move (.t 7) },
  { dst := some 21, op := .bin .gtr (.t 20) (.c (.v (.int .i64 0))) },
  { dst := some 22, op := .move (.t 21) },
  { dst := some 23, op := .load true 12 (.t 3), guard := some (22, true) },
  { dst := some 24, op := .faddr 1 (.t 2), guard := some (22, true) },
  { dst := some 25, op := .load false 1 (.t 24), guard := some (22, true) },
  { dst := some 26, op := .move (.t 7), guard := some (22, true) },
  { dst := some 27, op := .bin .sub (.t 26) (.c (.v (.int .i64 1))), guard := some (22, true) },
  { dst := some 28, op := .iaddr 17 (.t 25) (.t 27), guard := some (22, true) },
  { dst := some 29, op := .faddr 0 (.t 28), guard := some (22, true) },
  { dst := some 30, op := .load true 12 (.t 29), guard := some (22, true) },
  { dst := some 31, op := .call 130 [(.t 23), (.t 30)], guard := some (22, true) },
  { dst := some 32, op := .pick (.t 22) (.t 31) (.c (.v (.bool false))) }])
 (.cond (.t 32) (.seq (.region [{ dst := some 33, op := .move (.t 7) },
  { dst := some 34, op := .bin .sub (.t 33) (.c (.v (.int .i64 1))) },
  { dst := some 7, op := .move (.t 34) }])
 (.seq (.region [{ dst := some 35, op := .move (.t 6) },
  { dst := some 36, op := .faddr 1 (.t 2) },
  { dst := some 37, op := .load false 1 (.t 36) },
  { dst := some 38, op := .move (.t 7) },
  { dst := some 39, op := .iaddr 17 (.t 37) (.t 38) },
  { dst := some 40, op := .load true 17 (.t 39) },
  { dst := some 41, op := .call 286 [(.t 35), (.t 40)] }])
 (.goto 0))) .skip))
 (.seq (.region [{ dst := some 42, op := .faddr 1 (.t 2) },
  { dst := some 43, op := .load false 1 (.t 42) },
  { dst := some 44, op := .move (.t 7) },
  { dst := some 45, op := .slice 17 (.t 43) (some (.t 44)) none none },
  { dst := some 8, op := .move (.t 45) }])
 (.seq (.seq (.dregion [{ dst := some 46, op := .move (.t 7) },
  { dst := some 47, op := .bin .gtr (.t 46) (.c (.v (.int .i64 0))) },
  { dst := some 48, op := .move (.t 47) },
  { dst := some 49, op := .faddr 1 (.t 2), guard := some (48, true) },
  { dst := some 50, op := .load false 1 (.t 49), guard := some (48, true) },
  { dst := some 51, op := .move (.t 7), guard := some (48, true) },
  { dst := some 52, op := .bin .sub (.t 51) (.c (.v (.int .i64 1))), guard := some (48, true) },
  { dst := some 53, op := .iaddr 17 (.t 50) (.t 52), guard := some (48, true) },
  { dst := some 54, op := .faddr 0 (.t 53), guard := some (48, true) },
  { dst := some 55, op := .faddr 0 (.t 54), guard := some (48, true) },
  { dst := some 56, op := .load true 2 (.t 55), guard := some (48, true) },
  { dst := some 57, op := .faddr 0 (.t 3), guard := some (48, true) },
  { dst := some 58, op := .load true 2 (.t 57), guard := some (48, true) },
  { dst := some 59, op := .eqAgg false [1, 1] (.t 56) (.t 58), guard := some (48, true) },
  { dst := some 60, op := .pick (.t 48) (.t 59) (.c (.v (.bool false))) }])
 (.cond (.t 60) (.seq (.seq (.region [{ dst := some 61, op := .move (.t 8) },
  { dst := some 62, op := .len (.t 61) },
  { dst := some 63, op := .move (.c (.v (.int .i64 0))) }])
 (.block 0 (.loop (.seq (.region [{ dst := some 64, op := .bin .lss (.t 63) (.t 62) }])
 (.seq (.cond (.t 64) .skip (.exit 0))
 (.seq (.block 1 (.seq (.region [{ dst := some 65, op := .move (.t 63) },
  { dst := some 9, op := .move (.t 65) }])
 (.region [{ dst := some 66, op := .move (.t 6) },
  { dst := some 67, op := .move (.t 8) },
  { dst := some 68, op := .move (.t 9) },
  { dst := some 69, op := .iaddr 17 (.t 67) (.t 68) },
  { dst := some 70, op := .faddr 0 (.t 69) },
  { dst := some 71, op := .load true 12 (.t 70) },
  { dst := some 72, op := .call 287 [(.t 66), (.t 71)] }])))
 (.region [{ dst := some 73, op := .bin .add (.t 63) (.c (.v (.int .i64 1))) },
  { dst := some 63, op := .move (.t 73) }])))))))
 (.seq (.region [{ dst := some 74, op := .build [.v (.slice none 0 0), .v (.slice none 0 0)] [] },
  { dst := none, op := .store 2 (.t 4) (.t 74) },
  { dst := some 5, op := .move (.c (.v (.int .i64 4))) }])
 .ret)) .skip))
 (.seq (.dregion [{ dst := some 75, op := .faddr 1 (.t 2) },
  { dst := some 76, op := .load false 1 (.t 75) },
  { dst := some 77, op := .move (.t 7) },
  { dst := some 78, op := .slice 17 (.t 76) none (some (.t 77)) none },
  { dst := some 79, op := .call 225 [(.t 78)] },
  { dst := some 80, op := .move (.t 6) },
  { dst := some 81, op := .load true 12 (.t 3), un := [4] },
  { dst := some 82, op := .call 287 [(.t 80), (.t 81)] },
  { dst := some 83, op := .buildSlice 200 17 1 [.v (.int .i64 0), .v (.int .i64 0), .v (.int .i64 0), .v (.slice none 0 0), .v (.int .i64 0), .v (.int .i64 0), .v (.int .i64 0), .v (.int .i64 0), .v (.int .i64 0), .v (.string ⟨#[]⟩), .v (.int .i64 0), .v (.int .i64 0), .v (.bool false), .v (.int .i64 0), .v (.int .i64 0), .v (.string ⟨#[]⟩), .v (.bool false)] [(0, 17, (.t 82))] },
  { dst := some 84, op := .append 200 17 168 (.t 79) (.t 83) },
  { dst := some 10, op := .move (.t 84) }])
 (.seq (.seq (.region [{ dst := some 85, op := .move (.t 8) },
  { dst := some 86, op := .len (.t 85) },
  { dst := some 87, op := .move (.c (.v (.int .i64 0))) }])
 (.block 2 (.loop (.seq (.region [{ dst := some 88, op := .bin .lss (.t 87) (.t 86) }])
 (.seq (.cond (.t 88) .skip (.exit 2))
 (.seq (.block 3 (.seq (.region [{ dst := some 89, op := .iaddr 17 (.t 85) (.t 87) },
  { dst := some 90, op := .load true 17 (.t 89) },
  { dst := some 12, op := .alloc 200 [.v (.int .i64 0), .v (.int .i64 0), .v (.int .i64 0), .v (.slice none 0 0), .v (.int .i64 0), .v (.int .i64 0), .v (.int .i64 0), .v (.int .i64 0), .v (.int .i64 0), .v (.string ⟨#[]⟩), .v (.int .i64 0), .v (.int .i64 0), .v (.bool false), .v (.int .i64 0), .v (.int .i64 0), .v (.string ⟨#[]⟩), .v (.bool false)] },
  { dst := none, op := .store 17 (.t 12) (.t 90) }])
 (.region [{ dst := some 91, op := .move (.t 10) },
  { dst := some 92, op := .move (.t 6) },
  { dst := some 93, op := .faddr 0 (.t 12) },
  { dst := some 94, op := .load true 12 (.t 93) },
  { dst := some 95, op := .call 287 [(.t 92), (.t 94)] },
  { dst := some 96, op := .buildSlice 200 17 1 [.v (.int .i64 0), .v (.int .i64 0), .v (.int .i64 0), .v (.slice none 0 0), .v (.int .i64 0), .v (.int .i64 0), .v (.int .i64 0), .v (.int .i64 0), .v (.int .i64 0), .v (.string ⟨#[]⟩), .v (.int .i64 0), .v (.int .i64 0), .v (.bool false), .v (.int .i64 0), .v (.int .i64 0), .v (.string ⟨#[]⟩), .v (.bool false)] [(0, 17, (.t 95))] },
  { dst := some 97, op := .append 200 17 168 (.t 91) (.t 96) },
  { dst := some 10, op := .move (.t 97) }])))
 (.region [{ dst := some 98, op := .bin .add (.t 87) (.c (.v (.int .i64 1))) },
  { dst := some 87, op := .move (.t 98) }])))))))
 (.seq (.region [{ dst := some 99, op := .move (.t 6) },
  { dst := some 100, op := .nilChk (.t 99) },
  { dst := some 101, op := .faddr 0 (.t 100) },
  { dst := some 102, op := .load false 1 (.t 101) },
  { dst := some 103, op := .move (.t 10) },
  { dst := some 104, op := .build [.v (.slice none 0 0), .v (.slice none 0 0)] [(0, 1, (.t 102)), (1, 1, (.t 103))] },
  { dst := none, op := .store 2 (.t 4) (.t 104) },
  { dst := some 5, op := .move (.c (.v (.int .i64 0))) }])
 .ret)))))))))) (.seq (.region [{ dst := some 13, op := .faddr 0 (.t 2) },
  { dst := some 14, op := .load false 1 (.t 13) },
  { dst := some 15, op := .build [.v (.slice none 0 0)] [(0, 1, (.t 14))] },
  { dst := some 16, op := .box 355 1 (.t 15) },
  { dst := some 6, op := .move (.t 16) }])
 (.seq (.region [{ dst := some 17, op := .faddr 1 (.t 2) },
  { dst := some 18, op := .load false 1 (.t 17) },
  { dst := some 19, op := .len (.t 18) },
  { dst := some 7, op := .move (.t 19) }])
 (.seq (.region [{ dst := some 8, op := .move (.c (.v (.slice none 0 0))) }])
 (.seq (.label 0)
 (.seq (.seq (.dregion [{ dst := some 20, op := .move (.t 7) },
  { dst := some 21, op := .bin .gtr (.t 20) (.c (.v (.int .i64 0))) },
  { dst := some 22, op := .move (.t 21) },
  { dst := some 23, op := .load true 12 (.t 3), guard := some (22, true) },
  { dst := some 24, op := .faddr 1 (.t 2), guard := some (22, true) },
  { dst := some 25, op := .load false 1 (.t 24), guard := some (22, true) },
  { dst := some 26, op := .move (.t 7), guard := some (22, true) },
  { dst := some 27, op := .bin .sub (.t 26) (.c (.v (.int .i64 1))), guard := some (22, true) },
  { dst := some 28, op := .iaddr 17 (.t 25) (.t 27), guard := some (22, true) },
  { dst := some 29, op := .faddr 0 (.t 28), guard := some (22, true) },
  { dst := some 30, op := .load true 12 (.t 29), guard := some (22, true) },
  { dst := some 31, op := .call 130 [(.t 23), (.t 30)], guard := some (22, true) },
  { dst := some 32, op := .pick (.t 22) (.t 31) (.c (.v (.bool false))) }])
 (.cond (.t 32) (.seq (.region [{ dst := some 33, op := .move (.t 7) },
  { dst := some 34, op := .bin .sub (.t 33) (.c (.v (.int .i64 1))) },
  { dst := some 7, op := .move (.t 34) }])
 (.seq (.region [{ dst := some 35, op := .move (.t 6) },
  { dst := some 36, op := .faddr 1 (.t 2) },
  { dst := some 37, op := .load false 1 (.t 36) },
  { dst := some 38, op := .move (.t 7) },
  { dst := some 39, op := .iaddr 17 (.t 37) (.t 38) },
  { dst := some 40, op := .load true 17 (.t 39) },
  { dst := some 41, op := .call 286 [(.t 35), (.t 40)] }])
 (.goto 0))) .skip))
 (.seq (.region [{ dst := some 42, op := .faddr 1 (.t 2) },
  { dst := some 43, op := .load false 1 (.t 42) },
  { dst := some 44, op := .move (.t 7) },
  { dst := some 45, op := .slice 17 (.t 43) (some (.t 44)) none none },
  { dst := some 8, op := .move (.t 45) }])
 (.seq (.seq (.dregion [{ dst := some 46, op := .move (.t 7) },
  { dst := some 47, op := .bin .gtr (.t 46) (.c (.v (.int .i64 0))) },
  { dst := some 48, op := .move (.t 47) },
  { dst := some 49, op := .faddr 1 (.t 2), guard := some (48, true) },
  { dst := some 50, op := .load false 1 (.t 49), guard := some (48, true) },
  { dst := some 51, op := .move (.t 7), guard := some (48, true) },
  { dst := some 52, op := .bin .sub (.t 51) (.c (.v (.int .i64 1))), guard := some (48, true) },
  { dst := some 53, op := .iaddr 17 (.t 50) (.t 52), guard := some (48, true) },
  { dst := some 54, op := .faddr 0 (.t 53), guard := some (48, true) },
  { dst := some 55, op := .faddr 0 (.t 54), guard := some (48, true) },
  { dst := some 56, op := .load true 2 (.t 55), guard := some (48, true) },
  { dst := some 57, op := .faddr 0 (.t 3), guard := some (48, true) },
  { dst := some 58, op := .load true 2 (.t 57), guard := some (48, true) },
  { dst := some 59, op := .eqAgg false [1, 1] (.t 56) (.t 58), guard := some (48, true) },
  { dst := some 60, op := .pick (.t 48) (.t 59) (.c (.v (.bool false))) }])
 (.cond (.t 60) (.seq (.seq (.region [{ dst := some 61, op := .move (.t 8) },
  { dst := some 62, op := .len (.t 61) },
  { dst := some 63, op := .move (.c (.v (.int .i64 0))) }])
 (.block 0 (.loop (.seq (.region [{ dst := some 64, op := .bin .lss (.t 63) (.t 62) }])
 (.seq (.cond (.t 64) .skip (.exit 0))
 (.seq (.block 1 (.seq (.region [{ dst := some 65, op := .move (.t 63) },
  { dst := some 9, op := .move (.t 65) }])
 (.region [{ dst := some 66, op := .move (.t 6) },
  { dst := some 67, op := .move (.t 8) },
  { dst := some 68, op := .move (.t 9) },
  { dst := some 69, op := .iaddr 17 (.t 67) (.t 68) },
  { dst := some 70, op := .faddr 0 (.t 69) },
  { dst := some 71, op := .load true 12 (.t 70) },
  { dst := some 72, op := .call 287 [(.t 66), (.t 71)] }])))
 (.region [{ dst := some 73, op := .bin .add (.t 63) (.c (.v (.int .i64 1))) },
  { dst := some 63, op := .move (.t 73) }])))))))
 (.seq (.region [{ dst := some 74, op := .build [.v (.slice none 0 0), .v (.slice none 0 0)] [] },
  { dst := none, op := .store 2 (.t 4) (.t 74) },
  { dst := some 5, op := .move (.c (.v (.int .i64 4))) }])
 .ret)) .skip))
 (.seq (.dregion [{ dst := some 75, op := .faddr 1 (.t 2) },
  { dst := some 76, op := .load false 1 (.t 75) },
  { dst := some 77, op := .move (.t 7) },
  { dst := some 78, op := .slice 17 (.t 76) none (some (.t 77)) none },
  { dst := some 79, op := .call 225 [(.t 78)] },
  { dst := some 80, op := .move (.t 6) },
  { dst := some 81, op := .load true 12 (.t 3), un := [4] },
  { dst := some 82, op := .call 287 [(.t 80), (.t 81)] },
  { dst := some 83, op := .buildSlice 200 17 1 [.v (.int .i64 0), .v (.int .i64 0), .v (.int .i64 0), .v (.slice none 0 0), .v (.int .i64 0), .v (.int .i64 0), .v (.int .i64 0), .v (.int .i64 0), .v (.int .i64 0), .v (.string ⟨#[]⟩), .v (.int .i64 0), .v (.int .i64 0), .v (.bool false), .v (.int .i64 0), .v (.int .i64 0), .v (.string ⟨#[]⟩), .v (.bool false)] [(0, 17, (.t 82))] },
  { dst := some 84, op := .append 200 17 168 (.t 79) (.t 83) },
  { dst := some 10, op := .move (.t 84) }])
 (.seq (.seq (.region [{ dst := some 85, op := .move (.t 8) },
  { dst := some 86, op := .len (.t 85) },
  { dst := some 87, op := .move (.c (.v (.int .i64 0))) }])
 (.block 2 (.loop (.seq (.region [{ dst := some 88, op := .bin .lss (.t 87) (.t 86) }])
 (.seq (.cond (.t 88) .skip (.exit 2))
 (.seq (.block 3 (.seq (.region [{ dst := some 89, op := .iaddr 17 (.t 85) (.t 87) },
  { dst := some 90, op := .load true 17 (.t 89) },
  { dst := some 12, op := .alloc 200 [.v (.int .i64 0), .v (.int .i64 0), .v (.int .i64 0), .v (.slice none 0 0), .v (.int .i64 0), .v (.int .i64 0), .v (.int .i64 0), .v (.int .i64 0), .v (.int .i64 0), .v (.string ⟨#[]⟩), .v (.int .i64 0), .v (.int .i64 0), .v (.bool false), .v (.int .i64 0), .v (.int .i64 0), .v (.string ⟨#[]⟩), .v (.bool false)] },
  { dst := none, op := .store 17 (.t 12) (.t 90) }])
 (.region [{ dst := some 91, op := .move (.t 10) },
  { dst := some 92, op := .move (.t 6) },
  { dst := some 93, op := .faddr 0 (.t 12) },
  { dst := some 94, op := .load true 12 (.t 93) },
  { dst := some 95, op := .call 287 [(.t 92), (.t 94)] },
  { dst := some 96, op := .buildSlice 200 17 1 [.v (.int .i64 0), .v (.int .i64 0), .v (.int .i64 0), .v (.slice none 0 0), .v (.int .i64 0), .v (.int .i64 0), .v (.int .i64 0), .v (.int .i64 0), .v (.int .i64 0), .v (.string ⟨#[]⟩), .v (.int .i64 0), .v (.int .i64 0), .v (.bool false), .v (.int .i64 0), .v (.int .i64 0), .v (.string ⟨#[]⟩), .v (.bool false)] [(0, 17, (.t 95))] },
  { dst := some 97, op := .append 200 17 168 (.t 91) (.t 96) },
  { dst := some 10, op := .move (.t 97) }])))
 (.region [{ dst := some 98, op := .bin .add (.t 87) (.c (.v (.int .i64 1))) },
  { dst := some 87, op := .move (.t 98) }])))))))
 (.seq (.region [{ dst := some 99, op := .move (.t 6) },
  { dst := some 100, op := .nilChk (.t 99) },
  { dst := some 101, op := .faddr 0 (.t 100) },
  { dst := some 102, op := .load false 1 (.t 101) },
  { dst := some 103, op := .move (.t 10) },
  { dst := some 104, op := .build [.v (.slice none 0 0), .v (.slice none 0 0)] [(0, 1, (.t 102)), (1, 1, (.t 103))] },
  { dst := none, op := .store 2 (.t 4) (.t 104) },
  { dst := some 5, op := .move (.c (.v (.int .i64 0))) }])
 .ret))))))))))))⟩
/-- arras.arrasref16.done -/
def F249 : AFun := ⟨true, 99, [.t 4, .cell 5 true 17], (.seq (.region [{ dst := some 3, op := .box 75 12 (.t 1) },
  { dst := some 4, op := .move (.c (.v (.slice none 0 0))) },
  { dst := some 5, op := .alloc 200 [.v (.int .i64 0), .v (.int .i64 0), .v (.int .i64 0), .v (.slice none 0 0), .v (.int .i64 0), .v (.int .i64 0), .v (.int .i64 0), .v (.int .i64 0), .v (.int .i64 0), .v (.string ⟨#[]⟩), .v (.int .i64 0), .v (.int .i64 0), .v (.bool false), .v (.int .i64 0), .v (.int .i64 0), .v (.string ⟨#[]⟩), .v (.bool false)] }])
 (.seq (.region [{ dst := some 13, op := .load true 12 (.t 3) },
  { dst := some 14, op := .call 47 [(.t 13)] },
  { dst := some 15, op := .build [.v (.int .i64 0), .v (.int .i64 0), .v (.int .i64 0), .v (.slice none 0 0), .v (.int .i64 0), .v (.int .i64 0), .v (.int .i64 0), .v (.int .i64 0), .v (.int .i64 0), .v (.string ⟨#[]⟩), .v (.int .i64 0), .v (.int .i64 0), .v (.bool false), .v (.int .i64 0), .v (.int .i64 0), .v (.string ⟨#[]⟩), .v (.bool false)] [(0, 12, (.t 14))] },
  { dst := some 6, op := .alloc 200 [.v (.int .i64 0), .v (.int .i64 0), .v (.int .i64 0), .v (.slice none 0 0), .v (.int .i64 0), .v (.int .i64 0), .v (.int .i64 0), .v (.int .i64 0), .v (.int .i64 0), .v (.string ⟨#[]⟩), .v (.int .i64 0), .v (.int .i64 0), .v (.bool false), .v (.int .i64 0), .v (.int .i64 0), .v (.string ⟨#[]⟩), .v (.bool false)] },
  { dst := none, op := .store 17 (.t 6) (.t 15) }])
 (.seq (.region [{ dst := some 16, op := .move (.t 0) },
  { dst := some 17, op := .faddr 5 (.t 3) },
  { dst := some 18, op := .load true 2 (.t 17) },
  { dst := some 19, op := .call 295 [(.t 16), (.t 18)] },
  { dst := some 7, op := .move (.t 19) }])
 (.seq (.seq (.region [{ dst := some 20, op := .move (.t 7) },
  { dst := some 21, op := .bin .geq (.t 20) (.c (.v (.int .i64 0))) }])
 (.cond (.t 21) (.dregion [{ dst := some 22, op := .move (.t 0) },
  { dst := some 23, op := .move (.t 7) },
  { dst := some 24, op := .iaddr 5 (.t 22) (.t 23) },
  { dst := some 25, op := .faddr 2 (.t 24) },
  { dst := some 26, op := .load true 2 (.t 25) },
  { dst := some 27, op := .move (.t 0) },
  { dst := some 28, op := .move (.t 7) },
  { dst := some 29, op := .iaddr 5 (.t 27) (.t 28) },
  { dst := some 30, op := .faddr 4 (.t 29) },
  { dst := some 31, op := .load false 1 (.t 30) },
  { dst := some 32, op := .faddr 12 (.t 6) },
  { dst := none, op := .store 1 (.t 32) (.c (.v (.bool true))), un := [4, 9] },
  { dst := some 33, op := .faddr 13 (.t 6) },
  { dst := none, op := .store 2 (.t 33) (.t 26), un := [9] },
  { dst := some 34, op := .faddr 15 (.t 6) },
  { dst := none, op := .store 1 (.t 34) (.t 31) }]) .skip))
 (.seq (.seq (.region [{ dst := some 35, op := .move (.t 0) },
  { dst := some 36, op := .faddr 5 (.t 3) },
  { dst := some 37, op := .load true 2 (.t 36) },
  { dst := some 38, op := .faddr 7 (.t 3) },
  { dst := some 39, op := .load true 2 (.t 38) },
  { dst := some 40, op := .call 296 [(.t 35), (.t 37), (.t 39)] }])
 (.cond (.t 40) (.seq (.region [{ dst := some 41, op := .faddr 16 (.t 6) },
  { dst := none, op := .store 1 (.t 41) (.c (.v (.bool true))) }])
 (.seq (.dregion [{ dst := some 42, op := .move (.t 0) },
  { dst := some 43, op := .load true 17 (.t 6) },
  { dst := some 4, op := .move (.t 42) },
  { dst := none, op := .store 17 (.t 5) (.t 43) }])
 .ret)) .skip))
 (.seq (.region [{ dst := some 44, op := .faddr 5 (.t 3) },
  { dst := some 45, op := .load true 2 (.t 44) },
  { dst := some 46, op := .faddr 7 (.t 3) },
  { dst := some 47, op := .load true 2 (.t 46) },
  { dst := some 48, op := .faddr 9 (.t 3) },
  { dst := some 49, op := .load false 1 (.t 48) },
  { dst := some 50, op := .build [.v (.int .i64 0), .v (.int .i64 0), .v (.int .i64 0), .v (.int .i64 0), .v (.string ⟨#[]⟩)] [(0, 2, (.t 45)), (2, 2, (.t 47)), (4, 1, (.t 49))] },
  { dst := some 8, op := .alloc 197 [.v (.int .i64 0), .v (.int .i64 0), .v (.int .i64 0), .v (.int .i64 0), .v (.string ⟨#[]⟩)] },
  { dst := none, op := .store 5 (.t 8) (.t 50) }])
 (.seq (.seq (.region [{ dst := some 51, op := .move (.t 7) },
  { dst := some 52, op := .bin .geq (.t 51) (.c (.v (.int .i64 0))) }])
 (.cond (.t 52) (.seq (.region [{ dst := some 53, op := .move (.t 0) },
  { dst := some 54, op := .call 203 [(.t 53)] },
  { dst := some 9, op := .move (.t 54) }])
 (.seq (.region [{ dst := some 55, op := .move (.t 9) },
  { dst := some 56, op := .move (.t 7) },
  { dst := some 57, op := .load true 5 (.t 8) },
  { dst := some 58, op := .iaddr 5 (.t 55) (.t 56) },
  { dst := none, op := .store 5 (.t 58) (.t 57) }])
 (.seq (.dregion [{ dst := some 59, op := .move (.t 9) },
  { dst := some 60, op := .load true 17 (.t 6) },
  { dst := some 4, op := .move (.t 59) },
  { dst := none, op := .store 17 (.t 5) (.t 60) }])
 .ret))) .skip))
 (.seq (.region [{ dst := some 10, op := .move (.c (.v (.slice none 0 0))) }])
 (.seq (.region [{ dst := some 11, op := .move (.c (.v (.bool false))) }])
 (.seq (.seq (.region [{ dst := some 12, op := .move (.c (.v (.int .i64 0))) }])
 (.block 0 (.loop (.seq (.seq (.region [{ dst := some 61, op := .move (.t 12) },
  { dst := some 62, op := .move (.t 0) },
  { dst := some 63, op := .len (.t 62) },
  { dst := some 64, op := .bin .lss (.t 61) (.t 63) }])
 (.cond (.t 64) .skip (.exit 0)))
 (.seq (.block 1 (.seq (.seq (.dregion [{ dst := some 67, op := .move (.t 11) },
  { dst := some 68, op := .un .not (.t 67) },
  { dst := some 69, op := .move (.t 68) },
  { dst := some 70, op := .move (.t 0), guard := some (69, true) },
  { dst := some 71, op := .move (.t 12), guard := some (69, true) },
  { dst := some 72, op := .iaddr 5 (.t 70) (.t 71), guard := some (69, true) },
  { dst := some 73, op := .faddr 0 (.t 72), guard := some (69, true) },
  { dst := some 74, op := .load true 2 (.t 73), guard := some (69, true) },
  { dst := some 75, op := .faddr 5 (.t 3), guard := some (69, true) },
  { dst := some 76, op := .load true 2 (.t 75), guard := some (69, true) },
  { dst := some 77, op := .call 111 [(.t 74), (.t 76)], guard := some (69, true) },
  { dst := some 78, op := .bin .gtr (.t 77) (.c (.v (.int .i64 0))), guard := some (69, true) },
  { dst := some 79, op := .pick (.t 69) (.t 78) (.c (.v (.bool false))) }])
 (.cond (.t 79) (.seq (.region [{ dst := some 80, op := .move (.t 10) },
  { dst := some 81, op := .load true 5 (.t 8) },
  { dst := some 82, op := .buildSlice 197 5 1 [.v (.int .i64 0), .v (.int .i64 0), .v (.int .i64 0), .v (.int .i64 0), .v (.string ⟨#[]⟩)] [(0, 5, (.t 81))] },
  { dst := some 83, op := .append 197 5 48 (.t 80) (.t 82) },
  { dst := some 10, op := .move (.t 83) }])
 (.region [{ dst := some 11, op := .move (.c (.v (.bool true))) }])) .skip))
 (.region [{ dst := some 84, op := .move (.t 10) },
  { dst := some 85, op := .move (.t 0) },
  { dst := some 86, op := .move (.t 12) },
  { dst := some 87, op := .iaddr 5 (.t 85) (.t 86) },
  { dst := some 88, op := .load true 5 (.t 87) },
  { dst := some 89, op := .buildSlice 197 5 1 [.v (.int .i64 0), .v (.int .i64 0), .v (.int .i64 0), .v (.int .i64 0), .v (.string ⟨#[]⟩)] [(0, 5, (.t 88))] },
  { dst := some 90, op := .append 197 5 48 (.t 84) (.t 89) },
  { dst := some 10, op := .move (.t 90) }])))
 (.region [{ dst := some 65, op := .move (.t 12) },
  { dst := some 66, op := .bin .add (.t 65) (.c (.v (.int .i64 1))) },
  { dst := some 12, op := .move (.t 66) }]))))))
 (.seq (.seq (.region [{ dst := some 91, op := .move (.t 11) },
  { dst := some 92, op := .un .not (.t 91) }])
 (.cond (.t 92) (.region [{ dst := some 93, op := .move (.t 10) },
  { dst := some 94, op := .load true 5 (.t 8) },
  { dst := some 95, op := .buildSlice 197 5 1 [.v (.int .i64 0), .v (.int .i64 0), .v (.int .i64 0), .v (.int .i64 0), .v (.string ⟨#[]⟩)] [(0, 5, (.t 94))] },
  { dst := some 96, op := .append 197 5 48 (.t 93) (.t 95) },
  { dst := some 10, op := .move (.t 96) }]) .skip))
 (.seq (.dregion [{ dst := some 97, op := .move (.t 10) },
  { dst := some 98, op := .load true 17 (.t 6) },
  { dst := some 4, op := .move (.t 97) },
  { dst := none, op := .store 17 (.t 5) (.t 98) }])
 .ret))))))))))))⟩
/-- arras.arrasref0.CopyEntry -/
def F250 : AFun := ⟨true, 10, [.cell 2 true 17], (.seq (.region [{ dst := some 1, op := .box 200 17 (.t 0) },
  { dst := some 2, op := .alloc 200 [.v (.int .i64 0), .v (.int .i64 0), .v (.int .i64 0), .v (.slice none 0 0), .v (.int .i64 0), .v (.int .i64 0), .v (.int .i64 0), .v (.int .i64 0), .v (.int .i64 0), .v (.string ⟨#[]⟩), .v (.int .i64 0), .v (.int .i64 0), .v (.bool false), .v (.int .i64 0), .v (.int .i64 0), .v (.string ⟨#[]⟩), .v (.bool false)] }])
 (.seq (.region [{ dst := some 4, op := .load true 17 (.t 1) },
  { dst := some 3, op := .alloc 200 [.v (.int .i64 0), .v (.int .i64 0), .v (.int .i64 0), .v (.slice none 0 0), .v (.int .i64 0), .v (.int .i64 0), .v (.int .i64 0), .v (.int .i64 0), .v (.int .i64 0), .v (.string ⟨#[]⟩), .v (.int .i64 0), .v (.int .i64 0), .v (.bool false), .v (.int .i64 0), .v (.int .i64 0), .v (.string ⟨#[]⟩), .v (.bool false)] },
  { dst := none, op := .store 17 (.t 3) (.t 4) }])
 (.seq (.region [{ dst := some 5, op := .faddr 0 (.t 1) },
  { dst := some 6, op := .load true 12 (.t 5) },
  { dst := some 7, op := .call 47 [(.t 6)] },
  { dst := some 8, op := .faddr 0 (.t 3) },
  { dst := none, op := .store 12 (.t 8) (.t 7) }])
 (.seq (.region [{ dst := some 9, op := .load true 17 (.t 3) },
  { dst := none, op := .store 17 (.t 2) (.t 9) }])
 .ret))))⟩
/-- arras.code.TakeNum -/
def F251 : AFun := ⟨true, 53, [.t 2, .t 3, .t 4], (.seq (.region [{ dst := some 2, op := .move (.c (.v (.int .i64 0))) },
  { dst := some 3, op := .move (.c (.v (.int .i64 0))) },
  { dst := some 4, op := .move (.c (.v (.int .i64 0))) }])
 (.scope (.seq (.region [{ dst := some 5, op := .move (.c (.v (.int .i64 0))) }])
 (.seq (.label 0)
 (.seq (.seq (.region [{ dst := some 6, op := .move (.t 5) },
  { dst := some 7, op := .move (.t 0) },
  { dst := some 8, op := .len (.t 7) },
  { dst := some 9, op := .bin .eql (.t 6) (.t 8) }])
 (.cond (.t 9) (.seq (.region [{ dst := some 2, op := .move (.c (.v (.int .i64 0))) },
  { dst := some 3, op := .move (.c (.v (.int .i64 0))) },
  { dst := some 4, op := .move (.c (.v (.int .i64 7))) }])
 .ret) .skip))
 (.seq (.seq (.region [{ dst := some 10, op := .move (.t 0) },
  { dst := some 11, op := .move (.t 5) },
  { dst := some 12, op := .iaddr 1 (.t 10) (.t 11) },
  { dst := some 13, op := .load false 1 (.t 12) },
  { dst := some 14, op := .bin .geq (.t 13) (.c (.v (.int .u8 128))) },
  { dst := some 15, op := .move (.t 14) },
  { dst := some 16, op := .move (.t 5), guard := some (15, true) },
  { dst := some 17, op := .bin .eql (.t 16) (.c (.v (.int .i64 8))), guard := some (15, true) },
  { dst := some 18, op := .pick (.t 15) (.t 17) (.c (.v (.bool false))) }])
 (.cond (.t 18) (.goto 1) .skip))
 (.seq (.region [{ dst := some 19, op := .move (.t 2) },
  { dst := some 20, op := .move (.t 0) },
  { dst := some 21, op := .move (.t 5) },
  { dst := some 22, op := .iaddr 1 (.t 20) (.t 21) },
  { dst := some 23, op := .load false 1 (.t 22) },
  { dst := some 24, op := .bin .and (.t 23) (.c (.v (.int .u8 127))) },
  { dst := some 25, op := .conv .i64 (.t 24) },
  { dst := some 26, op := .move (.t 5) },
  { dst := some 27, op := .bin .mul (.c (.v (.int .i64 7))) (.t 26) },
  { dst := some 28, op := .bin .shl (.t 25) (.t 27) },
  { dst := some 29, op := .bin .or (.t 19) (.t 28) },
  { dst := some 2, op := .move (.t 29) }])
 (.seq (.seq (.region [{ dst := some 30, op := .move (.t 0) },
  { dst := some 31, op := .move (.t 5) },
  { dst := some 32, op := .iaddr 1 (.t 30) (.t 31) },
  { dst := some 33, op := .load false 1 (.t 32) },
  { dst := some 34, op := .bin .geq (.t 33) (.c (.v (.int .u8 128))) }])
 (.cond (.t 34) (.seq (.region [{ dst := some 35, op := .move (.t 5) },
  { dst := some 36, op := .bin .add (.t 35) (.c (.v (.int .i64 1))) },
  { dst := some 5, op := .move (.t 36) }])
 (.goto 0)) .skip))
 (.seq (.seq (.region [{ dst := some 37, op := .move (.t 0) },
  { dst := some 38, op := .move (.t 5) },
  { dst := some 39, op := .iaddr 1 (.t 37) (.t 38) },
  { dst := some 40, op := .load false 1 (.t 39) },
  { dst := some 41, op := .bin .eql (.t 40) (.c (.v (.int .u8 0))) },
  { dst := some 42, op := .move (.t 41) },
  { dst := some 43, op := .move (.t 5), guard := some (42, true) },
  { dst := some 44, op := .bin .gtr (.t 43) (.c (.v (.int .i64 0))), guard := some (42, true) },
  { dst := some 45, op := .pick (.t 42) (.t 44) (.c (.v (.bool false))) },
  { dst := some 46, op := .move (.t 45) },
  { dst := some 47, op := .move (.t 2), guard := some (46, false) },
  { dst := some 48, op := .bin .gtr (.t 47) (.c (.v (.int .i64 4611686018427387904))), guard := some (46, false) },
  { dst := some 49, op := .pick (.t 46) (.c (.v (.bool true))) (.t 48) }])
 (.cond (.t 49) (.goto 1) .skip))
 (.seq (.seq (.region [{ dst := some 50, op := .move (.t 2) },
  { dst := some 51, op := .move (.t 5) },
  { dst := some 52, op := .bin .add (.t 51) (.c (.v (.int .i64 1))) },
  { dst := some 2, op := .move (.t 50) },
  { dst := some 3, op := .move (.t 52) },
  { dst := some 4, op := .move (.c (.v (.int .i64 0))) }])
 .ret)
 (.seq (.label 1)
 (.seq (.region [{ dst := some 2, op := .move (.c (.v (.int .i64 0))) },
  { dst := some 3, op := .move (.c (.v (.int .i64 0))) },
  { dst := some 4, op := .move (.c (.v (.int .i64 1))) }])
 .ret)))))))))) (.seq (.region [{ dst := some 5, op := .move (.c (.v (.int .i64 0))) }])
 (.seq (.label 0)
 (.seq (.seq (.region [{ dst := some 6, op := .move (.t 5) },
  { dst := some 7, op := .move (.t 0) },
  { dst := some 8, op := .len (.t 7) },
  { dst := some 9, op := .bin .eql (.t 6) (.t 8) }])
 (.cond (.t 9) (.seq (.region [{ dst := some 2, op := .move (.c (.v (.int .i64 0))) },
  { dst := some 3, op := .move (.c (.v (.int .i64 0))) },
  { dst := some 4, op := .move (.c (.v (.int .i64 7))) }])
 .ret) .skip))
 (.seq (.seq (.region [{ dst := some 10, op := .move (.t 0) },
  { dst := some 11, op := .move (.t 5) },
  { dst := some 12, op := .iaddr 1 (.t 10) (.t 11) },
  { dst := some 13, op := .load false 1 (.t 12) },
  { dst := some 14, op := .bin .geq (.t 13) (.c (.v (.int .u8 128))) },
  { dst := some 15, op := .move (.t 14) },
  { dst := some 16, op := .move (.t 5), guard := some (15, true) },
  { dst := some 17, op := .bin .eql (.t 16) (.c (.v (.int .i64 8))), guard := some (15, true) },
  { dst := some 18, op := .pick (.t 15) (.t 17) (.c (.v (.bool false))) }])
 (.cond (.t 18) (.goto 1) .skip))
 (.seq (.region [{ dst := some 19, op := .move (.t 2) },
  { dst := some 20, op := .move (.t 0) },
  { dst := some 21, op := .move (.t 5) },
  { dst := some 22, op := .iaddr 1 (.t 20) (.t 21) },
  { dst := some 23, op := .load false 1 (.t 22) },
  { dst := some 24, op := .bin .and (.t 23) (.c (.v (.int .u8 127))) },
  { dst := some 25, op := .conv .i64 (.t 24) },
  { dst := some 26, op := .move (.t 5) },
  { dst := some 27, op := .bin .mul (.c (.v (.int .i64 7))) (.t 26) },
  { dst := some 28, op := .bin .shl (.t 25) (.t 27) },
  { dst := some 29, op := .bin .or (.t 19) (.t 28) },
  { dst := some 2, op := .move (.t 29) }])
 (.seq (.seq (.region [{ dst := some 30, op := .move (.t 0) },
  { dst := some 31, op := .move (.t 5) },
  { dst := some 32, op := .iaddr 1 (.t 30) (.t 31) },
  { dst := some 33, op := .load false 1 (.t 32) },
  { dst := some 34, op := .bin .geq (.t 33) (.c (.v (.int .u8 128))) }])
 (.cond (.t 34) (.seq (.region [{ dst := some 35, op := .move (.t 5) },
  { dst := some 36, op := .bin .add (.t 35) (.c (.v (.int .i64 1))) },
  { dst := some 5, op := .move (.t 36) }])
 (.goto 0)) .skip))
 (.seq (.seq (.region [{ dst := some 37, op := .move (.t 0) },
  { dst := some 38, op := .move (.t 5) },
  { dst := some 39, op := .iaddr 1 (.t 37) (.t 38) },
  { dst := some 40, op := .load false 1 (.t 39) },
  { dst := some 41, op := .bin .eql (.t 40) (.c (.v (.int .u8 0))) },
  { dst := some 42, op := .move (.t 41) },
  { dst := some 43, op := .move (.t 5), guard := some (42, true) },
  { dst := some 44, op := .bin .gtr (.t 43) (.c (.v (.int .i64 0))), guard := some (42, true) },
  { dst := some 45, op := .pick (.t 42) (.t 44) (.c (.v (.bool false))) },
  { dst := some 46, op := .move (.t 45) },
  { dst := some 47, op := .move (.t 2), guard := some (46, false) },
  { dst := some 48, op := .bin .gtr (.t 47) (.c (.v (.int .i64 4611686018427387904))), guard := some (46, false) },
  { dst := some 49, op := .pick (.t 46) (.c (.v (.bool true))) (.t 48) }])
 (.cond (.t 49) (.goto 1) .skip))
 (.seq (.seq (.region [{ dst := some 50, op := .move (.t 2) },
  { dst := some 51, op := .move (.t 5) },
  { dst := some 52, op := .bin .add (.t 51) (.c (.v (.int .i64 1))) },
  { dst := some 2, op := .move (.t 50) },
  { dst := some 3, op := .move (.t 52) },
  { dst := some 4, op := .move (.c (.v (.int .i64 0))) }])
 .ret)
 (.seq (.label 1)
 (.seq (.region [{ dst := some 2, op := .move (.c (.v (.int .i64 0))) },
  { dst := some 3, op := .move (.c (.v (.int .i64 0))) },
  { dst := some 4, op := .move (.c (.v (.int .i64 1))) }])
 .ret))))))))))))⟩
/-- arras.code.TakeNums -/
def F252 : AFun := ⟨true, 44, [.t 2, .t 3, .t 4], (.seq (.region [{ dst := some 2, op := .move (.c (.v (.slice none 0 0))) },
  { dst := some 3, op := .move (.c (.v (.int .i64 0))) },
  { dst := some 4, op := .move (.c (.v (.int .i64 0))) }])
 (.seq (.region [{ dst := some 10, op := .move (.t 0) },
  { dst := some 11, op := .call 251 [(.t 10)] },
  { dst := some 9, op := .move (.t 11) },
  { dst := some 12, op := .ext (.t 9) 0 },
  { dst := some 13, op := .ext (.t 9) 1 },
  { dst := some 14, op := .ext (.t 9) 2 },
  { dst := some 5, op := .move (.t 12) },
  { dst := some 3, op := .move (.t 13) },
  { dst := some 4, op := .move (.t 14) }])
 (.seq (.seq (.region [{ dst := some 15, op := .move (.t 4) },
  { dst := some 16, op := .bin .neq (.t 15) (.c (.v (.int .i64 0))) }])
 (.cond (.t 16) (.seq (.region [{ dst := some 17, op := .move (.t 4) },
  { dst := some 2, op := .move (.c (.v (.slice none 0 0))) },
  { dst := some 3, op := .move (.c (.v (.int .i64 0))) },
  { dst := some 4, op := .move (.t 17) }])
 .ret) .skip))
 (.seq (.seq (.region [{ dst := some 18, op := .move (.t 5) },
  { dst := some 19, op := .bin .gtr (.t 18) (.c (.v (.int .i64 1024))) }])
 (.cond (.t 19) (.seq (.region [{ dst := some 2, op := .move (.c (.v (.slice none 0 0))) },
  { dst := some 3, op := .move (.c (.v (.int .i64 0))) },
  { dst := some 4, op := .move (.c (.v (.int .i64 1))) }])
 .ret) .skip))
 (.seq (.seq (.region [{ dst := some 20, op := .move (.t 5) },
  { dst := some 21, op := .move (.c (.v (.int .i64 0))) }])
 (.block 0 (.loop (.seq (.region [{ dst := some 22, op := .bin .lss (.t 21) (.t 20) }])
 (.seq (.cond (.t 22) .skip (.exit 0))
 (.seq (.block 1 (.seq (.region [{ dst := some 24, op := .move (.t 0) },
  { dst := some 25, op := .move (.t 3) },
  { dst := some 26, op := .slice 1 (.t 24) (some (.t 25)) none none },
  { dst := some 27, op := .call 251 [(.t 26)] },
  { dst := some 23, op := .move (.t 27) },
  { dst := some 28, op := .ext (.t 23) 0 },
  { dst := some 29, op := .ext (.t 23) 1 },
  { dst := some 30, op := .ext (.t 23) 2 },
  { dst := some 6, op := .move (.t 28) },
  { dst := some 7, op := .move (.t 29) },
  { dst := some 8, op := .move (.t 30) }])
 (.seq (.seq (.region [{ dst := some 31, op := .move (.t 8) },
  { dst := some 32, op := .bin .neq (.t 31) (.c (.v (.int .i64 0))) }])
 (.cond (.t 32) (.seq (.region [{ dst := some 33, op := .move (.t 8) },
  { dst := some 2, op := .move (.c (.v (.slice none 0 0))) },
  { dst := some 3, op := .move (.c (.v (.int .i64 0))) },
  { dst := some 4, op := .move (.t 33) }])
 .ret) .skip))
 (.region [{ dst := some 34, op := .move (.t 2) },
  { dst := some 35, op := .move (.t 6) },
  { dst := some 36, op := .buildSlice 3 1 1 [.v (.int .i64 0)] [(0, 1, (.t 35))] },
  { dst := some 37, op := .append 3 1 8 (.t 34) (.t 36) },
  { dst := some 38, op := .move (.t 3) },
  { dst := some 39, op := .move (.t 7) },
  { dst := some 40, op := .bin .add (.t 38) (.t 39) },
  { dst := some 2, op := .move (.t 37) },
  { dst := some 3, op := .move (.t 40) }]))))
 (.region [{ dst := some 41, op := .bin .add (.t 21) (.c (.v (.int .i64 1))) },
  { dst := some 21, op := .move (.t 41) }])))))))
 (.seq (.region [{ dst := some 42, op := .move (.t 2) },
  { dst := some 43, op := .move (.t 3) },
  { dst := some 2, op := .move (.t 42) },
  { dst := some 3, op := .move (.t 43) },
  { dst := some 4, op := .move (.c (.v (.int .i64 0))) }])
 .ret))))))⟩
/-- (*arras.op.reader).place -/
def F262 : AFun := ⟨false, 25, [.cell 2 true 2], (.seq (.region [{ dst := some 2, op := .alloc 41 [.v (.int .i64 0), .v (.int .i64 0)] }])
 (.seq (.dregion [{ dst := some 7, op := .move (.t 0) },
  { dst := some 8, op := .nilChk (.t 7) },
  { dst := some 9, op := .faddr 0 (.t 8) },
  { dst := some 10, op := .load false 1 (.t 9) },
  { dst := some 11, op := .move (.t 0) },
  { dst := some 12, op := .nilChk (.t 11) },
  { dst := some 13, op := .faddr 1 (.t 12) },
  { dst := some 14, op := .load false 1 (.t 13) },
  { dst := some 15, op := .slice 1 (.t 10) (some (.t 14)) none none },
  { dst := some 16, op := .call 301 [(.t 15)] },
  { dst := some 6, op := .move (.t 16) },
  { dst := some 17, op := .ext (.t 6) 0 },
  { dst := some 18, op := .ext (.t 6) 1 },
  { dst := some 19, op := .ext (.t 6) 2 },
  { dst := some 3, op := .alloc 41 [.v (.int .i64 0), .v (.int .i64 0)], un := [3, 7, 9] },
  { dst := none, op := .store 2 (.t 3) (.t 17) },
  { dst := some 4, op := .move (.t 18) },
  { dst := some 5, op := .move (.t 19) }])
 (.seq (.region [{ dst := some 20, op := .move (.t 0) },
  { dst := some 21, op := .move (.t 4) },
  { dst := some 22, op := .move (.t 5) },
  { dst := some 23, op := .call 263 [(.t 20), (.t 21), (.t 22)] }])
 (.seq (.region [{ dst := some 24, op := .load true 2 (.t 3) },
  { dst := none, op := .store 2 (.t 2) (.t 24) }])
 .ret))))⟩
/-- (*arras.op.reader).part -/
def F263 : AFun := ⟨false, 24, [], (.seq (.region [{ dst := some 6, op := .move (.t 0) },
  { dst := some 7, op := .nilChk (.t 6) },
  { dst := some 8, op := .faddr 2 (.t 7) },
  { dst := some 9, op := .load false 1 (.t 8) },
  { dst := some 10, op := .bin .eql (.t 9) (.c (.v (.int .i64 0))) }])
 (.cond (.t 10) (.region [{ dst := some 11, op := .move (.t 0) },
  { dst := some 12, op := .move (.t 0) },
  { dst := some 13, op := .move (.t 0) },
  { dst := some 14, op := .nilChk (.t 13) },
  { dst := some 15, op := .faddr 1 (.t 14) },
  { dst := some 16, op := .load false 1 (.t 15) },
  { dst := some 17, op := .move (.t 1) },
  { dst := some 18, op := .bin .add (.t 16) (.t 17) },
  { dst := some 19, op := .move (.t 2) },
  { dst := some 20, op := .nilChk (.t 11) },
  { dst := some 21, op := .faddr 1 (.t 20) },
  { dst := none, op := .store 1 (.t 21) (.t 18) },
  { dst := some 22, op := .nilChk (.t 12) },
  { dst := some 23, op := .faddr 2 (.t 22) },
  { dst := none, op := .store 1 (.t 23) (.t 19) }]) .skip))⟩
/-- (*arras.op.reader).number -/
def F264 : AFun := ⟨false, 25, [.t 2], (.seq (.region [{ dst := some 2, op := .move (.c (.v (.int .i64 0))) }])
 (.seq (.dregion [{ dst := some 7, op := .move (.t 0) },
  { dst := some 8, op := .nilChk (.t 7) },
  { dst := some 9, op := .faddr 0 (.t 8) },
  { dst := some 10, op := .load false 1 (.t 9) },
  { dst := some 11, op := .move (.t 0) },
  { dst := some 12, op := .nilChk (.t 11) },
  { dst := some 13, op := .faddr 1 (.t 12) },
  { dst := some 14, op := .load false 1 (.t 13) },
  { dst := some 15, op := .slice 1 (.t 10) (some (.t 14)) none none },
  { dst := some 16, op := .call 251 [(.t 15)] },
  { dst := some 6, op := .move (.t 16) },
  { dst := some 17, op := .ext (.t 6) 0 },
  { dst := some 18, op := .ext (.t 6) 1 },
  { dst := some 19, op := .ext (.t 6) 2 },
  { dst := some 3, op := .move (.t 17) },
  { dst := some 4, op := .move (.t 18) },
  { dst := some 5, op := .move (.t 19) }])
 (.seq (.region [{ dst := some 20, op := .move (.t 0) },
  { dst := some 21, op := .move (.t 4) },
  { dst := some 22, op := .move (.t 5) },
  { dst := some 23, op := .call 263 [(.t 20), (.t 21), (.t 22)] }])
 (.seq (.region [{ dst := some 24, op := .move (.t 3) },
  { dst := some 2, op := .move (.t 24) }])
 .ret))))⟩
/-- arras.code.TakeText -/
def F265 : AFun := ⟨true, 36, [.t 2, .t 3, .t 4], (.seq (.region [{ dst := some 2, op := .move (.c (.v (.string ⟨#[]⟩))) },
  { dst := some 3, op := .move (.c (.v (.int .i64 0))) },
  { dst := some 4, op := .move (.c (.v (.int .i64 0))) }])
 (.seq (.region [{ dst := some 7, op := .move (.t 0) },
  { dst := some 8, op := .call 251 [(.t 7)] },
  { dst := some 6, op := .move (.t 8) },
  { dst := some 9, op := .ext (.t 6) 0 },
  { dst := some 10, op := .ext (.t 6) 1 },
  { dst := some 11, op := .ext (.t 6) 2 },
  { dst := some 5, op := .move (.t 9) },
  { dst := some 3, op := .move (.t 10) },
  { dst := some 4, op := .move (.t 11) }])
 (.seq (.block 0 (.seq (.region [{ dst := some 13, op := .move (.t 4) },
  { dst := some 14, op := .bin .neq (.t 13) (.c (.v (.int .i64 0))) },
  { dst := some 12, op := .move (.t 14) }])
 (.cond (.t 12) (.seq (.region [{ dst := some 15, op := .move (.t 4) },
  { dst := some 2, op := .move (.c (.v (.string ⟨#[]⟩))) },
  { dst := some 3, op := .move (.c (.v (.int .i64 0))) },
  { dst := some 4, op := .move (.t 15) }])
 .ret) (.seq (.region [{ dst := some 17, op := .move (.t 5) },
  { dst := some 18, op := .bin .gtr (.t 17) (.c (.v (.int .i64 65536))) },
  { dst := some 16, op := .move (.t 18) }])
 (.cond (.t 16) (.seq (.region [{ dst := some 2, op := .move (.c (.v (.string ⟨#[]⟩))) },
  { dst := some 3, op := .move (.c (.v (.int .i64 0))) },
  { dst := some 4, op := .move (.c (.v (.int .i64 1))) }])
 .ret) (.seq (.region [{ dst := some 20, op := .move (.t 5) },
  { dst := some 21, op := .move (.t 0) },
  { dst := some 22, op := .len (.t 21) },
  { dst := some 23, op := .move (.t 3) },
  { dst := some 24, op := .bin .sub (.t 22) (.t 23) },
  { dst := some 25, op := .bin .gtr (.t 20) (.t 24) },
  { dst := some 19, op := .move (.t 25) }])
 (.cond (.t 19) (.seq (.region [{ dst := some 2, op := .move (.c (.v (.string ⟨#[]⟩))) },
  { dst := some 3, op := .move (.c (.v (.int .i64 0))) },
  { dst := some 4, op := .move (.c (.v (.int .i64 7))) }])
 .ret) .skip)))))))
 (.seq (.region [{ dst := some 26, op := .move (.t 0) },
  { dst := some 27, op := .move (.t 3) },
  { dst := some 28, op := .move (.t 3) },
  { dst := some 29, op := .move (.t 5) },
  { dst := some 30, op := .bin .add (.t 28) (.t 29) },
  { dst := some 31, op := .slice 1 (.t 26) (some (.t 27)) (some (.t 30)) none },
  { dst := some 32, op := .b2s (.t 31) },
  { dst := some 33, op := .move (.t 3) },
  { dst := some 34, op := .move (.t 5) },
  { dst := some 35, op := .bin .add (.t 33) (.t 34) },
  { dst := some 2, op := .move (.t 32) },
  { dst := some 3, op := .move (.t 35) },
  { dst := some 4, op := .move (.c (.v (.int .i64 0))) }])
 .ret))))⟩
/-- cmp.isNaN[int] -/
def F269 : AFun := ⟨true, 6, [.t 2], (.seq (.region [{ dst := some 2, op := .move (.c (.v (.bool false))) }])
 (.seq (.region [{ dst := some 3, op := .move (.t 0) },
  { dst := some 4, op := .move (.t 0) },
  { dst := some 5, op := .bin .neq (.t 3) (.t 4) },
  { dst := some 2, op := .move (.t 5) }])
 .ret))⟩
/-- slices.BinarySearchFunc[[]arras.api.Node,arras.api.Node,arras.api.Stamp] -/
def F270 : AFun := ⟨true, 49, [.t 6, .t 7], (.seq (.region [{ dst := some 4, op := .box 41 2 (.t 1) },
  { dst := some 6, op := .move (.c (.v (.int .i64 0))) },
  { dst := some 7, op := .move (.c (.v (.bool false))) }])
 (.seq (.region [{ dst := some 12, op := .move (.t 0) },
  { dst := some 13, op := .len (.t 12) },
  { dst := some 8, op := .move (.t 13) }])
 (.seq (.region [{ dst := some 14, op := .move (.t 8) },
  { dst := some 9, op := .move (.c (.v (.int .i64 0))) },
  { dst := some 10, op := .move (.t 14) }])
 (.seq (.block 0 (.loop (.seq (.seq (.region [{ dst := some 15, op := .move (.t 9) },
  { dst := some 16, op := .move (.t 10) },
  { dst := some 17, op := .bin .lss (.t 15) (.t 16) }])
 (.cond (.t 17) .skip (.exit 0)))
 (.block 1 (.seq (.region [{ dst := some 18, op := .move (.t 9) },
  { dst := some 19, op := .move (.t 10) },
  { dst := some 20, op := .bin .add (.t 18) (.t 19) },
  { dst := some 21, op := .conv .u64 (.t 20) },
  { dst := some 22, op := .bin .shr (.t 21) (.c (.v (.int .u64 1))) },
  { dst := some 23, op := .conv .i64 (.t 22) },
  { dst := some 11, op := .move (.t 23) }])
 (.seq (.dregion [{ dst := some 24, op := .move (.t 2) },
  { dst := some 25, op := .move (.t 0) },
  { dst := some 26, op := .move (.t 11) },
  { dst := some 27, op := .iaddr 5 (.t 25) (.t 26) },
  { dst := some 28, op := .load true 5 (.t 27) },
  { dst := some 29, op := .load true 2 (.t 4) },
  { dst := some 30, op := .callv (.t 24) [(.t 28), (.t 29)] },
  { dst := some 31, op := .bin .lss (.t 30) (.c (.v (.int .i64 0))) }])
 (.cond (.t 31) (.region [{ dst := some 32, op := .move (.t 11) },
  { dst := some 33, op := .bin .add (.t 32) (.c (.v (.int .i64 1))) },
  { dst := some 9, op := .move (.t 33) }]) (.region [{ dst := some 34, op := .move (.t 11) },
  { dst := some 10, op := .move (.t 34) }]))))))))
 (.seq (.dregion [{ dst := some 35, op := .move (.t 9) },
  { dst := some 36, op := .move (.t 9) },
  { dst := some 37, op := .move (.t 8) },
  { dst := some 38, op := .bin .lss (.t 36) (.t 37) },
  { dst := some 39, op := .move (.t 38) },
  { dst := some 40, op := .move (.t 2), guard := some (39, true) },
  { dst := some 41, op := .move (.t 0), guard := some (39, true) },
  { dst := some 42, op := .move (.t 9), guard := some (39, true) },
  { dst := some 43, op := .iaddr 5 (.t 41) (.t 42), guard := some (39, true) },
  { dst := some 44, op := .load true 5 (.t 43), guard := some (39, true) },
  { dst := some 45, op := .load true 2 (.t 4), guard := some (39, true) },
  { dst := some 46, op := .callv (.t 40) [(.t 44), (.t 45)], guard := some (39, true) },
  { dst := some 47, op := .bin .eql (.t 46) (.c (.v (.int .i64 0))), guard := some (39, true) },
  { dst := some 48, op := .pick (.t 39) (.t 47) (.c (.v (.bool false))) },
  { dst := some 6, op := .move (.t 35) },
  { dst := some 7, op := .move (.t 48) }])
 .ret)))))⟩
/-- arras.tree.find$1 -/
def F271 : AFun := ⟨true, 9, [.t 4], (.seq (.region [{ dst := some 2, op := .box 197 5 (.t 0) },
  { dst := some 3, op := .box 41 2 (.t 1) },
  { dst := some 4, op := .move (.c (.v (.int .i64 0))) }])
 (.seq (.region [{ dst := some 5, op := .faddr 0 (.t 2) },
  { dst := some 6, op := .load true 2 (.t 5) },
  { dst := some 7, op := .load true 2 (.t 3) },
  { dst := some 8, op := .call 178 [(.t 6), (.t 7)] },
  { dst := some 4, op := .move (.t 8) }])
 .ret))⟩
/-- slices.SortFunc[[]arras.api.Node,arras.api.Node] -/
def F272 : AFun := ⟨false, 14, [], (.seq (.region [{ dst := some 5, op := .move (.t 0) },
  { dst := some 6, op := .len (.t 5) },
  { dst := some 4, op := .move (.t 6) }])
 (.region [{ dst := some 7, op := .move (.t 0) },
  { dst := some 8, op := .move (.t 4) },
  { dst := some 9, op := .move (.t 4) },
  { dst := some 10, op := .conv .u64 (.t 9) },
  { dst := some 11, op := .call 304 [(.t 10)] },
  { dst := some 12, op := .move (.t 1) },
  { dst := some 13, op := .call 303 [(.t 7), (.c (.v (.int .i64 0))), (.t 8), (.t 11), (.t 12)] }]))⟩
/-- arras.tree.Children$1 -/
def F273 : AFun := ⟨true, 17, [.t 4], (.seq (.region [{ dst := some 2, op := .box 197 5 (.t 0) },
  { dst := some 3, op := .box 197 5 (.t 1) },
  { dst := some 4, op := .move (.c (.v (.int .i64 0))) }])
 (.seq (.dregion [{ dst := some 5, op := .faddr 4 (.t 2) },
  { dst := some 6, op := .load false 1 (.t 5) },
  { dst := some 7, op := .faddr 4 (.t 3) },
  { dst := some 8, op := .load false 1 (.t 7) },
  { dst := some 9, op := .call 274 [(.t 6), (.t 8)] },
  { dst := some 10, op := .faddr 0 (.t 2) },
  { dst := some 11, op := .load true 2 (.t 10) },
  { dst := some 12, op := .faddr 0 (.t 3) },
  { dst := some 13, op := .load true 2 (.t 12) },
  { dst := some 14, op := .call 178 [(.t 11), (.t 13)] },
  { dst := some 15, op := .buildSlice 3 1 2 [.v (.int .i64 0)] [(0, 1, (.t 9)), (1, 1, (.t 14))] },
  { dst := some 16, op := .call 226 [(.t 15)] },
  { dst := some 4, op := .move (.t 16) }])
 .ret))⟩
/-- strings.Compare -/
def F274 : AFun := ⟨true, 8, [.t 4], (.seq (.region [{ dst := some 4, op := .move (.c (.v (.int .i64 0))) }])
 (.seq (.region [{ dst := some 5, op := .move (.t 0) },
  { dst := some 6, op := .move (.t 1) },
  { dst := some 7, op := .call 305 [(.t 5), (.t 6)] },
  { dst := some 4, op := .move (.t 7) }])
 .ret))⟩
/-- arras.key.at -/
def F275 : AFun := ⟨true, 16, [.t 6], (.seq (.region [{ dst := some 6, op := .move (.c (.v (.int .i64 0))) }])
 (.seq (.seq (.region [{ dst := some 7, op := .move (.t 1) },
  { dst := some 8, op := .move (.t 0) },
  { dst := some 9, op := .lenS (.t 8) },
  { dst := some 10, op := .bin .lss (.t 7) (.t 9) }])
 (.cond (.t 10) (.seq (.region [{ dst := some 11, op := .move (.t 0) },
  { dst := some 12, op := .move (.t 1) },
  { dst := some 13, op := .index (.t 11) (.t 12) },
  { dst := some 14, op := .conv .i64 (.t 13) },
  { dst := some 6, op := .move (.t 14) }])
 .ret) .skip))
 (.seq (.region [{ dst := some 15, op := .move (.t 2) },
  { dst := some 6, op := .move (.t 15) }])
 .ret)))⟩
/-- (*arras.tree.work).circle -/
def F276 : AFun := ⟨false, 30, [.t 6], (.seq (.region [{ dst := some 4, op := .box 41 2 (.t 1) },
  { dst := some 5, op := .box 41 2 (.t 2) },
  { dst := some 6, op := .move (.c (.v (.bool false))) }])
 (.scope (.seq (.region [{ dst := some 7, op := .move (.c (.v (.int .i64 0))) }])
 (.seq (.region [{ dst := some 8, op := .move (.c (.v (.bool false))) }])
 (.seq (.label 0)
 (.seq (.seq (.region [{ dst := some 9, op := .load true 2 (.t 5) },
  { dst := some 10, op := .load true 2 (.t 4) },
  { dst := some 11, op := .eqAgg false [1, 1] (.t 9) (.t 10) }])
 (.cond (.t 11) (.seq (.region [{ dst := some 6, op := .move (.c (.v (.bool true))) }])
 .ret) .skip))
 (.seq (.seq (.dregion [{ dst := some 13, op := .move (.t 0) },
  { dst := some 14, op := .nilChk (.t 13) },
  { dst := some 15, op := .faddr 0 (.t 14) },
  { dst := some 16, op := .load false 1 (.t 15) },
  { dst := some 17, op := .load true 2 (.t 5) },
  { dst := some 18, op := .call 228 [(.t 16), (.t 17)] },
  { dst := some 12, op := .move (.t 18) },
  { dst := some 19, op := .ext (.t 12) 0 },
  { dst := some 20, op := .ext (.t 12) 1 },
  { dst := some 7, op := .move (.t 19) },
  { dst := some 8, op := .move (.t 20) }])
 (.seq (.region [{ dst := some 21, op := .move (.t 8) }])
 (.cond (.t 21) (.seq (.region [{ dst := some 22, op := .move (.t 0) },
  { dst := some 23, op := .nilChk (.t 22) },
  { dst := some 24, op := .faddr 0 (.t 23) },
  { dst := some 25, op := .load false 1 (.t 24) },
  { dst := some 26, op := .move (.t 7) },
  { dst := some 27, op := .iaddr 5 (.t 25) (.t 26) },
  { dst := some 28, op := .faddr 2 (.t 27) },
  { dst := some 29, op := .load true 2 (.t 28) },
  { dst := none, op := .store 2 (.t 5) (.t 29) }])
 (.goto 0)) .skip)))
 (.seq (.region [{ dst := some 6, op := .move (.c (.v (.bool false))) }])
 .ret)))))) (.seq (.region [{ dst := some 7, op := .move (.c (.v (.int .i64 0))) }])
 (.seq (.region [{ dst := some 8, op := .move (.c (.v (.bool false))) }])
 (.seq (.label 0)
 (.seq (.seq (.region [{ dst := some 9, op := .load true 2 (.t 5) },
  { dst := some 10, op := .load true 2 (.t 4) },
  { dst := some 11, op := .eqAgg false [1, 1] (.t 9) (.t 10) }])
 (.cond (.t 11) (.seq (.region [{ dst := some 6, op := .move (.c (.v (.bool true))) }])
 .ret) .skip))
 (.seq (.seq (.dregion [{ dst := some 13, op := .move (.t 0) },
  { dst := some 14, op := .nilChk (.t 13) },
  { dst := some 15, op := .faddr 0 (.t 14) },
  { dst := some 16, op := .load false 1 (.t 15) },
  { dst := some 17, op := .load true 2 (.t 5) },
  { dst := some 18, op := .call 228 [(.t 16), (.t 17)] },
  { dst := some 12, op := .move (.t 18) },
  { dst := some 19, op := .ext (.t 12) 0 },
  { dst := some 20, op := .ext (.t 12) 1 },
  { dst := some 7, op := .move (.t 19) },
  { dst := some 8, op := .move (.t 20) }])
 (.seq (.region [{ dst := some 21, op := .move (.t 8) }])
 (.cond (.t 21) (.seq (.region [{ dst := some 22, op := .move (.t 0) },
  { dst := some 23, op := .nilChk (.t 22) },
  { dst := some 24, op := .faddr 0 (.t 23) },
  { dst := some 25, op := .load false 1 (.t 24) },
  { dst := some 26, op := .move (.t 7) },
  { dst := some 27, op := .iaddr 5 (.t 25) (.t 26) },
  { dst := some 28, op := .faddr 2 (.t 27) },
  { dst := some 29, op := .load true 2 (.t 28) },
  { dst := none, op := .store 2 (.t 5) (.t 29) }])
 (.goto 0)) .skip)))
 (.seq (.region [{ dst := some 6, op := .move (.c (.v (.bool false))) }])
 .ret))))))))⟩
/-- (*arras.tree.work).do -/
def F287 : AFun := ⟨false, 79, [.cell 4 true 17], (.seq (.region [{ dst := some 3, op := .box 75 12 (.t 1) },
  { dst := some 4, op := .alloc 200 [.v (.int .i64 0), .v (.int .i64 0), .v (.int .i64 0), .v (.slice none 0 0), .v (.int .i64 0), .v (.int .i64 0), .v (.int .i64 0), .v (.int .i64 0), .v (.int .i64 0), .v (.string ⟨#[]⟩), .v (.int .i64 0), .v (.int .i64 0), .v (.bool false), .v (.int .i64 0), .v (.int .i64 0), .v (.string ⟨#[]⟩), .v (.bool false)] }])
 (.seq (.dregion [{ dst := some 9, op := .load true 12 (.t 3) },
  { dst := some 10, op := .call 143 [(.t 9)] },
  { dst := some 11, op := .move (.t 0) },
  { dst := some 12, op := .faddr 5 (.t 3) },
  { dst := some 13, op := .load true 2 (.t 12) },
  { dst := some 14, op := .faddr 7 (.t 3) },
  { dst := some 15, op := .load true 2 (.t 14) },
  { dst := some 16, op := .call 276 [(.t 11), (.t 13), (.t 15)] },
  { dst := some 17, op := .build [.v (.int .i64 0), .v (.int .i64 0), .v (.int .i64 0), .v (.slice none 0 0), .v (.int .i64 0), .v (.int .i64 0), .v (.int .i64 0), .v (.int .i64 0), .v (.int .i64 0), .v (.string ⟨#[]⟩), .v (.int .i64 0), .v (.int .i64 0), .v (.bool false), .v (.int .i64 0), .v (.int .i64 0), .v (.string ⟨#[]⟩), .v (.bool false)] [(0, 12, (.t 10)), (16, 1, (.t 16))] },
  { dst := some 5, op := .alloc 200 [.v (.int .i64 0), .v (.int .i64 0), .v (.int .i64 0), .v (.slice none 0 0), .v (.int .i64 0), .v (.int .i64 0), .v (.int .i64 0), .v (.int .i64 0), .v (.int .i64 0), .v (.string ⟨#[]⟩), .v (.int .i64 0), .v (.int .i64 0), .v (.bool false), .v (.int .i64 0), .v (.int .i64 0), .v (.string ⟨#[]⟩), .v (.bool false)], un := [0, 1, 4, 6, 7] },
  { dst := none, op := .store 17 (.t 5) (.t 17) }])
 (.seq (.dregion [{ dst := some 19, op := .move (.t 0) },
  { dst := some 20, op := .nilChk (.t 19) },
  { dst := some 21, op := .faddr 0 (.t 20) },
  { dst := some 22, op := .load false 1 (.t 21) },
  { dst := some 23, op := .faddr 5 (.t 3) },
  { dst := some 24, op := .load true 2 (.t 23) },
  { dst := some 25, op := .call 228 [(.t 22), (.t 24)] },
  { dst := some 18, op := .move (.t 25) },
  { dst := some 26, op := .ext (.t 18) 0 },
  { dst := some 27, op := .ext (.t 18) 1 },
  { dst := some 6, op := .move (.t 26) },
  { dst := some 7, op := .move (.t 27) }])
 (.seq (.seq (.region [{ dst := some 28, op := .move (.t 7) }])
 (.cond (.t 28) (.dregion [{ dst := some 29, op := .move (.t 0) },
  { dst := some 30, op := .nilChk (.t 29) },
  { dst := some 31, op := .faddr 0 (.t 30) },
  { dst := some 32, op := .load false 1 (.t 31) },
  { dst := some 33, op := .move (.t 6) },
  { dst := some 34, op := .iaddr 5 (.t 32) (.t 33) },
  { dst := some 35, op := .faddr 2 (.t 34) },
  { dst := some 36, op := .load true 2 (.t 35) },
  { dst := some 37, op := .move (.t 0) },
  { dst := some 38, op := .nilChk (.t 37) },
  { dst := some 39, op := .faddr 0 (.t 38) },
  { dst := some 40, op := .load false 1 (.t 39) },
  { dst := some 41, op := .move (.t 6) },
  { dst := some 42, op := .iaddr 5 (.t 40) (.t 41) },
  { dst := some 43, op := .faddr 4 (.t 42) },
  { dst := some 44, op := .load false 1 (.t 43) },
  { dst := some 45, op := .faddr 12 (.t 5) },
  { dst := none, op := .store 1 (.t 45) (.c (.v (.bool true))), un := [3, 7, 11, 15] },
  { dst := some 46, op := .faddr 13 (.t 5) },
  { dst := none, op := .store 2 (.t 46) (.t 36), un := [11, 15] },
  { dst := some 47, op := .faddr 15 (.t 5) },
  { dst := none, op := .store 1 (.t 47) (.t 44) }]) .skip))
 (.seq (.region [{ dst := some 48, op := .faddr 5 (.t 3) },
  { dst := some 49, op := .load true 2 (.t 48) },
  { dst := some 50, op := .faddr 7 (.t 3) },
  { dst := some 51, op := .load true 2 (.t 50) },
  { dst := some 52, op := .faddr 9 (.t 3) },
  { dst := some 53, op := .load false 1 (.t 52) },
  { dst := some 54, op := .build [.v (.int .i64 0), .v (.int .i64 0), .v (.int .i64 0), .v (.int .i64 0), .v (.string ⟨#[]⟩)] [(0, 2, (.t 49)), (2, 2, (.t 51)), (4, 1, (.t 53))] },
  { dst := some 8, op := .alloc 197 [.v (.int .i64 0), .v (.int .i64 0), .v (.int .i64 0), .v (.int .i64 0), .v (.string ⟨#[]⟩)] },
  { dst := none, op := .store 5 (.t 8) (.t 54) }])
 (.seq (.block 0 (.seq (.region [{ dst := some 67, op := .faddr 16 (.t 5) },
  { dst := some 68, op := .load false 1 (.t 67) },
  { dst := some 66, op := .move (.t 68) }])
 (.cond (.t 66) .skip (.seq (.region [{ dst := some 70, op := .move (.t 7) },
  { dst := some 69, op := .move (.t 70) }])
 (.cond (.t 69) (.dregion [{ dst := some 71, op := .move (.t 0) },
  { dst := some 72, op := .nilChk (.t 71) },
  { dst := some 73, op := .faddr 0 (.t 72) },
  { dst := some 74, op := .load false 1 (.t 73) },
  { dst := some 75, op := .move (.t 6) },
  { dst := some 76, op := .load true 5 (.t 8) },
  { dst := some 77, op := .iaddr 5 (.t 74) (.t 75) },
  { dst := none, op := .store 5 (.t 77) (.t 76) }]) (.dregion [{ dst := some 55, op := .move (.t 0) },
  { dst := some 56, op := .move (.t 0) },
  { dst := some 57, op := .nilChk (.t 56) },
  { dst := some 58, op := .faddr 0 (.t 57) },
  { dst := some 59, op := .load false 1 (.t 58) },
  { dst := some 60, op := .move (.t 6) },
  { dst := some 61, op := .load true 5 (.t 8) },
  { dst := some 62, op := .buildSlice 197 5 1 [.v (.int .i64 0), .v (.int .i64 0), .v (.int .i64 0), .v (.int .i64 0), .v (.string ⟨#[]⟩)] [(0, 5, (.t 61))], un := [4] },
  { dst := some 63, op := .call 314 [(.t 59), (.t 60), (.t 62)] },
  { dst := some 64, op := .nilChk (.t 55) },
  { dst := some 65, op := .faddr 0 (.t 64) },
  { dst := none, op := .store 1 (.t 65) (.t 63) }]))))))
 (.seq (.region [{ dst := some 78, op := .load true 17 (.t 5) },
  { dst := none, op := .store 17 (.t 4) (.t 78) }])
 .ret)))))))⟩
/-- arras.arrasref16.Find -/
def F295 : AFun := ⟨true, 20, [.t 4], (.seq (.region [{ dst := some 3, op := .box 41 2 (.t 1) },
  { dst := some 4, op := .move (.c (.v (.int .i64 0))) }])
 (.seq (.seq (.region [{ dst := some 5, op := .move (.c (.v (.int .i64 0))) }])
 (.block 0 (.loop (.seq (.seq (.region [{ dst := some 6, op := .move (.t 5) },
  { dst := some 7, op := .move (.t 0) },
  { dst := some 8, op := .len (.t 7) },
  { dst := some 9, op := .bin .lss (.t 6) (.t 8) }])
 (.cond (.t 9) .skip (.exit 0)))
 (.seq (.block 1 (.seq (.dregion [{ dst := some 12, op := .move (.t 0) },
  { dst := some 13, op := .move (.t 5) },
  { dst := some 14, op := .iaddr 5 (.t 12) (.t 13) },
  { dst := some 15, op := .faddr 0 (.t 14) },
  { dst := some 16, op := .load true 2 (.t 15) },
  { dst := some 17, op := .load true 2 (.t 3) },
  { dst := some 18, op := .eqAgg false [1, 1] (.t 16) (.t 17) }])
 (.cond (.t 18) (.seq (.region [{ dst := some 19, op := .move (.t 5) },
  { dst := some 4, op := .move (.t 19) }])
 .ret) .skip)))
 (.region [{ dst := some 10, op := .move (.t 5) },
  { dst := some 11, op := .bin .add (.t 10) (.c (.v (.int .i64 1))) },
  { dst := some 5, op := .move (.t 11) }]))))))
 (.seq (.region [{ dst := some 4, op := .move (.c (.v (.int .i64 (-1)))) }])
 .ret)))⟩
/-- arras.arrasref16.over -/
def F296 : AFun := ⟨true, 28, [.t 6], (.seq (.region [{ dst := some 4, op := .box 41 2 (.t 1) },
  { dst := some 5, op := .box 41 2 (.t 2) },
  { dst := some 6, op := .move (.c (.v (.bool false))) }])
 (.seq (.seq (.region [{ dst := some 7, op := .move (.c (.v (.int .i64 0))) }])
 (.block 0 (.loop (.seq (.seq (.region [{ dst := some 9, op := .move (.t 7) },
  { dst := some 10, op := .move (.t 0) },
  { dst := some 11, op := .len (.t 10) },
  { dst := some 12, op := .bin .leq (.t 9) (.t 11) }])
 (.cond (.t 12) .skip (.exit 0)))
 (.seq (.block 1 (.seq (.seq (.region [{ dst := some 15, op := .load true 2 (.t 5) },
  { dst := some 16, op := .load true 2 (.t 4) },
  { dst := some 17, op := .eqAgg false [1, 1] (.t 15) (.t 16) }])
 (.cond (.t 17) (.seq (.region [{ dst := some 6, op := .move (.c (.v (.bool true))) }])
 .ret) .skip))
 (.seq (.region [{ dst := some 18, op := .move (.t 0) },
  { dst := some 19, op := .load true 2 (.t 5) },
  { dst := some 20, op := .call 295 [(.t 18), (.t 19)] },
  { dst := some 8, op := .move (.t 20) }])
 (.seq (.seq (.region [{ dst := some 21, op := .move (.t 8) },
  { dst := some 22, op := .bin .lss (.t 21) (.c (.v (.int .i64 0))) }])
 (.cond (.t 22) (.seq (.region [{ dst := some 6, op := .move (.c (.v (.bool false))) }])
 .ret) .skip))
 (.region [{ dst := some 23, op := .move (.t 0) },
  { dst := some 24, op := .move (.t 8) },
  { dst := some 25, op := .iaddr 5 (.t 23) (.t 24) },
  { dst := some 26, op := .faddr 2 (.t 25) },
  { dst := some 27, op := .load true 2 (.t 26) },
  { dst := none, op := .store 2 (.t 5) (.t 27) }])))))
 (.region [{ dst := some 13, op := .move (.t 7) },
  { dst := some 14, op := .bin .add (.t 13) (.c (.v (.int .i64 1))) },
  { dst := some 7, op := .move (.t 14) }]))))))
 (.seq (.region [{ dst := some 6, op := .move (.c (.v (.bool true))) }])
 .ret)))⟩
/-- arras.stamp.Take -/
def F301 : AFun := ⟨true, 41, [.cell 2 true 2, .t 3, .t 4], (.seq (.region [{ dst := some 2, op := .alloc 41 [.v (.int .i64 0), .v (.int .i64 0)] },
  { dst := some 3, op := .move (.c (.v (.int .i64 0))) },
  { dst := some 4, op := .move (.c (.v (.int .i64 0))) }])
 (.seq (.region [{ dst := some 9, op := .move (.t 0) },
  { dst := some 10, op := .call 251 [(.t 9)] },
  { dst := some 8, op := .move (.t 10) },
  { dst := some 11, op := .ext (.t 8) 0 },
  { dst := some 12, op := .ext (.t 8) 1 },
  { dst := some 13, op := .ext (.t 8) 2 },
  { dst := some 5, op := .move (.t 11) },
  { dst := some 3, op := .move (.t 12) },
  { dst := some 4, op := .move (.t 13) }])
 (.seq (.seq (.region [{ dst := some 14, op := .move (.t 4) },
  { dst := some 15, op := .bin .neq (.t 14) (.c (.v (.int .i64 0))) }])
 (.cond (.t 15) (.seq (.region [{ dst := some 16, op := .build [.v (.int .i64 0), .v (.int .i64 0)] [] },
  { dst := some 17, op := .move (.t 4) },
  { dst := none, op := .store 2 (.t 2) (.t 16) },
  { dst := some 3, op := .move (.c (.v (.int .i64 0))) },
  { dst := some 4, op := .move (.t 17) }])
 .ret) .skip))
 (.seq (.region [{ dst := some 19, op := .move (.t 0) },
  { dst := some 20, op := .move (.t 3) },
  { dst := some 21, op := .slice 1 (.t 19) (some (.t 20)) none none },
  { dst := some 22, op := .call 251 [(.t 21)] },
  { dst := some 18, op := .move (.t 22) },
  { dst := some 23, op := .ext (.t 18) 0 },
  { dst := some 24, op := .ext (.t 18) 1 },
  { dst := some 25, op := .ext (.t 18) 2 },
  { dst := some 6, op := .move (.t 23) },
  { dst := some 7, op := .move (.t 24) },
  { dst := some 4, op := .move (.t 25) }])
 (.seq (.seq (.region [{ dst := some 26, op := .move (.t 4) },
  { dst := some 27, op := .bin .neq (.t 26) (.c (.v (.int .i64 0))) }])
 (.cond (.t 27) (.seq (.region [{ dst := some 28, op := .build [.v (.int .i64 0), .v (.int .i64 0)] [] },
  { dst := some 29, op := .move (.t 4) },
  { dst := none, op := .store 2 (.t 2) (.t 28) },
  { dst := some 3, op := .move (.c (.v (.int .i64 0))) },
  { dst := some 4, op := .move (.t 29) }])
 .ret) .skip))
 (.seq (.seq (.region [{ dst := some 30, op := .move (.t 5) },
  { dst := some 31, op := .move (.t 6) },
  { dst := some 32, op := .build [.v (.int .i64 0), .v (.int .i64 0)] [(0, 1, (.t 30)), (1, 1, (.t 31))] },
  { dst := none, op := .store 2 (.t 2) (.t 32) }])
 (.seq (.region [{ dst := some 33, op := .load true 2 (.t 2) },
  { dst := some 34, op := .call 191 [(.t 33)] },
  { dst := some 35, op := .un .not (.t 34) }])
 (.cond (.t 35) (.seq (.region [{ dst := some 36, op := .build [.v (.int .i64 0), .v (.int .i64 0)] [] },
  { dst := none, op := .store 2 (.t 2) (.t 36) },
  { dst := some 3, op := .move (.c (.v (.int .i64 0))) },
  { dst := some 4, op := .move (.c (.v (.int .i64 1))) }])
 .ret) .skip)))
 (.seq (.region [{ dst := some 37, op := .load true 2 (.t 2) },
  { dst := some 38, op := .move (.t 3) },
  { dst := some 39, op := .move (.t 7) },
  { dst := some 40, op := .bin .add (.t 38) (.t 39) },
  { dst := none, op := .store 2 (.t 2) (.t 37) },
  { dst := some 3, op := .move (.t 40) },
  { dst := some 4, op := .move (.c (.v (.int .i64 0))) }])
 .ret)))))))⟩
/-- slices.pdqsortCmpFunc[arras.api.Node] -/
def F303 : AFun := ⟨false, 148, [], (.seq (.region [{ dst := some 10, op := .move (.c (.v (.bool true))) }])
 (.seq (.region [{ dst := some 11, op := .move (.c (.v (.bool true))) }])
 (.block 0 (.loop (.block 1 (.seq (.region [{ dst := some 21, op := .move (.t 2) },
  { dst := some 22, op := .move (.t 1) },
  { dst := some 23, op := .bin .sub (.t 21) (.t 22) },
  { dst := some 12, op := .move (.t 23) }])
 (.seq (.seq (.region [{ dst := some 24, op := .move (.t 12) },
  { dst := some 25, op := .bin .leq (.t 24) (.c (.v (.int .i64 12))) }])
 (.cond (.t 25) (.seq (.region [{ dst := some 26, op := .move (.t 0) },
  { dst := some 27, op := .move (.t 1) },
  { dst := some 28, op := .move (.t 2) },
  { dst := some 29, op := .move (.t 4) },
  { dst := some 30, op := .call 321 [(.t 26), (.t 27), (.t 28), (.t 29)] }])
 .ret) .skip))
 (.seq (.seq (.region [{ dst := some 31, op := .move (.t 3) },
  { dst := some 32, op := .bin .eql (.t 31) (.c (.v (.int .i64 0))) }])
 (.cond (.t 32) (.seq (.region [{ dst := some 33, op := .move (.t 0) },
  { dst := some 34, op := .move (.t 1) },
  { dst := some 35, op := .move (.t 2) },
  { dst := some 36, op := .move (.t 4) },
  { dst := some 37, op := .call 322 [(.t 33), (.t 34), (.t 35), (.t 36)] }])
 .ret) .skip))
 (.seq (.seq (.region [{ dst := some 38, op := .move (.t 10) },
  { dst := some 39, op := .un .not (.t 38) }])
 (.cond (.t 39) (.seq (.region [{ dst := some 40, op := .move (.t 0) },
  { dst := some 41, op := .move (.t 1) },
  { dst := some 42, op := .move (.t 2) },
  { dst := some 43, op := .move (.t 4) },
  { dst := some 44, op := .call 323 [(.t 40), (.t 41), (.t 42), (.t 43)] }])
 (.region [{ dst := some 45, op := .move (.t 3) },
  { dst := some 46, op := .bin .sub (.t 45) (.c (.v (.int .i64 1))) },
  { dst := some 3, op := .move (.t 46) }])) .skip))
 (.seq (.region [{ dst := some 48, op := .move (.t 0) },
  { dst := some 49, op := .move (.t 1) },
  { dst := some 50, op := .move (.t 2) },
  { dst := some 51, op := .move (.t 4) },
  { dst := some 52, op := .call 324 [(.t 48), (.t 49), (.t 50), (.t 51)] },
  { dst := some 47, op := .move (.t 52) },
  { dst := some 53, op := .ext (.t 47) 0 },
  { dst := some 54, op := .ext (.t 47) 1 },
  { dst := some 13, op := .move (.t 53) },
  { dst := some 14, op := .move (.t 54) }])
 (.seq (.seq (.region [{ dst := some 55, op := .move (.t 14) },
  { dst := some 56, op := .bin .eql (.t 55) (.c (.v (.int .i64 2))) }])
 (.cond (.t 56) (.seq (.region [{ dst := some 57, op := .move (.t 0) },
  { dst := some 58, op := .move (.t 1) },
  { dst := some 59, op := .move (.t 2) },
  { dst := some 60, op := .move (.t 4) },
  { dst := some 61, op := .call 325 [(.t 57), (.t 58), (.t 59), (.t 60)] }])
 (.seq (.region [{ dst := some 62, op := .move (.t 2) },
  { dst := some 63, op := .bin .sub (.t 62) (.c (.v (.int .i64 1))) },
  { dst := some 64, op := .move (.t 13) },
  { dst := some 65, op := .move (.t 1) },
  { dst := some 66, op := .bin .sub (.t 64) (.t 65) },
  { dst := some 67, op := .bin .sub (.t 63) (.t 66) },
  { dst := some 13, op := .move (.t 67) }])
 (.region [{ dst := some 14, op := .move (.c (.v (.int .i64 1))) }]))) .skip))
 (.seq (.seq (.region [{ dst := some 68, op := .move (.t 10) },
  { dst := some 69, op := .move (.t 68) },
  { dst := some 70, op := .move (.t 11), guard := some (69, true) },
  { dst := some 71, op := .pick (.t 69) (.t 70) (.c (.v (.bool false))) },
  { dst := some 72, op := .move (.t 71) },
  { dst := some 73, op := .move (.t 14), guard := some (72, true) },
  { dst := some 74, op := .bin .eql (.t 73) (.c (.v (.int .i64 1))), guard := some (72, true) },
  { dst := some 75, op := .pick (.t 72) (.t 74) (.c (.v (.bool false))) }])
 (.cond (.t 75) (.seq (.region [{ dst := some 76, op := .move (.t 0) },
  { dst := some 77, op := .move (.t 1) },
  { dst := some 78, op := .move (.t 2) },
  { dst := some 79, op := .move (.t 4) },
  { dst := some 80, op := .call 326 [(.t 76), (.t 77), (.t 78), (.t 79)] }])
 (.cond (.t 80) .ret .skip)) .skip))
 (.seq (.seq (.dregion [{ dst := some 81, op := .move (.t 1) },
  { dst := some 82, op := .bin .gtr (.t 81) (.c (.v (.int .i64 0))) },
  { dst := some 83, op := .move (.t 82) },
  { dst := some 84, op := .move (.t 4), guard := some (83, true) },
  { dst := some 85, op := .move (.t 0), guard := some (83, true) },
  { dst := some 86, op := .move (.t 1), guard := some (83, true) },
  { dst := some 87, op := .bin .sub (.t 86) (.c (.v (.int .i64 1))), guard := some (83, true) },
  { dst := some 88, op := .iaddr 5 (.t 85) (.t 87), guard := some (83, true) },
  { dst := some 89, op := .load true 5 (.t 88), guard := some (83, true) },
  { dst := some 90, op := .move (.t 0), guard := some (83, true) },
  { dst := some 91, op := .move (.t 13), guard := some (83, true) },
  { dst := some 92, op := .iaddr 5 (.t 90) (.t 91), guard := some (83, true) },
  { dst := some 93, op := .load true 5 (.t 92), guard := some (83, true) },
  { dst := some 94, op := .callv (.t 84) [(.t 89), (.t 93)], guard := some (83, true) },
  { dst := some 95, op := .bin .lss (.t 94) (.c (.v (.int .i64 0))), guard := some (83, true) },
  { dst := some 96, op := .un .not (.t 95), guard := some (83, true) },
  { dst := some 97, op := .pick (.t 83) (.t 96) (.c (.v (.bool false))) }])
 (.cond (.t 97) (.seq (.region [{ dst := some 98, op := .move (.t 0) },
  { dst := some 99, op := .move (.t 1) },
  { dst := some 100, op := .move (.t 2) },
  { dst := some 101, op := .move (.t 13) },
  { dst := some 102, op := .move (.t 4) },
  { dst := some 103, op := .call 327 [(.t 98), (.t 99), (.t 100), (.t 101), (.t 102)] },
  { dst := some 15, op := .move (.t 103) }])
 (.seq (.region [{ dst := some 104, op := .move (.t 15) },
  { dst := some 1, op := .move (.t 104) }])
 (.exit 1))) .skip))
 (.seq (.region [{ dst := some 106, op := .move (.t 0) },
  { dst := some 107, op := .move (.t 1) },
  { dst := some 108, op := .move (.t 2) },
  { dst := some 109, op := .move (.t 13) },
  { dst := some 110, op := .move (.t 4) },
  { dst := some 111, op := .call 328 [(.t 106), (.t 107), (.t 108), (.t 109), (.t 110)] },
  { dst := some 105, op := .move (.t 111) },
  { dst := some 112, op := .ext (.t 105) 0 },
  { dst := some 113, op := .ext (.t 105) 1 },
  { dst := some 16, op := .move (.t 112) },
  { dst := some 17, op := .move (.t 113) }])
 (.seq (.region [{ dst := some 114, op := .move (.t 17) },
  { dst := some 11, op := .move (.t 114) }])
 (.seq (.region [{ dst := some 115, op := .move (.t 16) },
  { dst := some 116, op := .move (.t 1) },
  { dst := some 117, op := .bin .sub (.t 115) (.t 116) },
  { dst := some 118, op := .move (.t 2) },
  { dst := some 119, op := .move (.t 16) },
  { dst := some 120, op := .bin .sub (.t 118) (.t 119) },
  { dst := some 18, op := .move (.t 117) },
  { dst := some 19, op := .move (.t 120) }])
 (.seq (.region [{ dst := some 121, op := .move (.t 12) },
  { dst := some 122, op := .bin .quo (.t 121) (.c (.v (.int .i64 8))) },
  { dst := some 20, op := .move (.t 122) }])
 (.seq (.region [{ dst := some 123, op := .move (.t 18) },
  { dst := some 124, op := .move (.t 19) },
  { dst := some 125, op := .bin .lss (.t 123) (.t 124) }])
 (.cond (.t 125) (.seq (.region [{ dst := some 126, op := .move (.t 18) },
  { dst := some 127, op := .move (.t 20) },
  { dst := some 128, op := .bin .geq (.t 126) (.t 127) },
  { dst := some 10, op := .move (.t 128) }])
 (.seq (.region [{ dst := some 129, op := .move (.t 0) },
  { dst := some 130, op := .move (.t 1) },
  { dst := some 131, op := .move (.t 16) },
  { dst := some 132, op := .move (.t 3) },
  { dst := some 133, op := .move (.t 4) },
  { dst := some 134, op := .call 303 [(.t 129), (.t 130), (.t 131), (.t 132), (.t 133)] }])
 (.region [{ dst := some 135, op := .move (.t 16) },
  { dst := some 136, op := .bin .add (.t 135) (.c (.v (.int .i64 1))) },
  { dst := some 1, op := .move (.t 136) }]))) (.seq (.region [{ dst := some 137, op := .move (.t 19) },
  { dst := some 138, op := .move (.t 20) },
  { dst := some 139, op := .bin .geq (.t 137) (.t 138) },
  { dst := some 10, op := .move (.t 139) }])
 (.seq (.region [{ dst := some 140, op := .move (.t 0) },
  { dst := some 141, op := .move (.t 16) },
  { dst := some 142, op := .bin .add (.t 141) (.c (.v (.int .i64 1))) },
  { dst := some 143, op := .move (.t 2) },
  { dst := some 144, op := .move (.t 3) },
  { dst := some 145, op := .move (.t 4) },
  { dst := some 146, op := .call 303 [(.t 140), (.t 142), (.t 143), (.t 144), (.t 145)] }])
 (.region [{ dst := some 147, op := .move (.t 16) },
  { dst := some 2, op := .move (.t 147) }]))))))))))))))))))))))⟩
/-- math.bits.Len -/
def F304 : AFun := ⟨true, 8, [.t 2], (.seq (.region [{ dst := some 2, op := .move (.c (.v (.int .i64 0))) }])
 (.seq (.cond (.c (.v (.bool false))) (.seq (.region [{ dst := some 3, op := .move (.t 0) },
  { dst := some 4, op := .conv .u32 (.t 3) },
  { dst := some 5, op := .call 329 [(.t 4)] },
  { dst := some 2, op := .move (.t 5) }])
 .ret) .skip)
 (.seq (.region [{ dst := some 6, op := .move (.t 0) },
  { dst := some 7, op := .call 330 [(.t 6)] },
  { dst := some 2, op := .move (.t 7) }])
 .ret)))⟩
/-- internal.bytealg.CompareString -/
def F305 : AFun := ⟨true, 8, [.t 4], (.seq (.region [{ dst := some 4, op := .move (.c (.v (.int .i64 0))) }])
 (.seq (.region [{ dst := some 5, op := .move (.t 0) },
  { dst := some 6, op := .move (.t 1) },
  { dst := some 7, op := .call 331 [(.t 5), (.t 6)] },
  { dst := some 4, op := .move (.t 7) }])
 .ret))⟩
/-- slices.Insert[[]arras.api.Node,arras.api.Node] -/
def F314 : AFun := ⟨false, 95, [.t 6], (.seq (.region [{ dst := some 6, op := .move (.c (.v (.slice none 0 0))) }])
 (.seq (.region [{ dst := some 10, op := .move (.t 0) },
  { dst := some 11, op := .move (.t 1) },
  { dst := some 12, op := .slice 5 (.t 10) (some (.t 11)) none none }])
 (.seq (.region [{ dst := some 13, op := .move (.t 2) },
  { dst := some 14, op := .len (.t 13) },
  { dst := some 7, op := .move (.t 14) }])
 (.seq (.seq (.region [{ dst := some 15, op := .move (.t 7) },
  { dst := some 16, op := .bin .eql (.t 15) (.c (.v (.int .i64 0))) }])
 (.cond (.t 16) (.seq (.region [{ dst := some 17, op := .move (.t 0) },
  { dst := some 6, op := .move (.t 17) }])
 .ret) .skip))
 (.seq (.region [{ dst := some 18, op := .move (.t 0) },
  { dst := some 19, op := .len (.t 18) },
  { dst := some 8, op := .move (.t 19) }])
 (.seq (.seq (.region [{ dst := some 20, op := .move (.t 1) },
  { dst := some 21, op := .move (.t 8) },
  { dst := some 22, op := .bin .eql (.t 20) (.t 21) }])
 (.cond (.t 22) (.seq (.region [{ dst := some 23, op := .move (.t 0) },
  { dst := some 24, op := .move (.t 2) },
  { dst := some 25, op := .append 197 5 48 (.t 23) (.t 24) },
  { dst := some 6, op := .move (.t 25) }])
 .ret) .skip))
 (.seq (.seq (.region [{ dst := some 26, op := .move (.t 8) },
  { dst := some 27, op := .move (.t 7) },
  { dst := some 28, op := .bin .add (.t 26) (.t 27) },
  { dst := some 29, op := .move (.t 0) },
  { dst := some 30, op := .bad },
  { dst := some 31, op := .bin .gtr (.t 28) (.t 30) }])
 (.cond (.t 31) (.seq (.region [{ dst := some 32, op := .move (.t 0) },
  { dst := some 33, op := .move (.t 1) },
  { dst := some 34, op := .slice 5 (.t 32) none (some (.t 33)) none },
  { dst := some 35, op := .move (.t 8) },
  { dst := some 36, op := .move (.t 7) },
  { dst := some 37, op := .bin .add (.t 35) (.t 36) },
  { dst := some 38, op := .move (.t 1) },
  { dst := some 39, op := .bin .sub (.t 37) (.t 38) },
  { dst := some 40, op := .bad },
  { dst := some 9, op := .move (.t 40) }])
 (.seq (.region [{ dst := some 41, op := .move (.t 9) },
  { dst := some 42, op := .move (.t 1) },
  { dst := some 43, op := .slice 5 (.t 41) (some (.t 42)) none none },
  { dst := some 44, op := .move (.t 2) },
  { dst := some 45, op := .copy 5 (.t 43) (.t 44) }])
 (.seq (.dregion [{ dst := some 46, op := .move (.t 9) },
  { dst := some 47, op := .move (.t 1) },
  { dst := some 48, op := .move (.t 7) },
  { dst := some 49, op := .bin .add (.t 47) (.t 48) },
  { dst := some 50, op := .slice 5 (.t 46) (some (.t 49)) none none },
  { dst := some 51, op := .move (.t 0) },
  { dst := some 52, op := .move (.t 1) },
  { dst := some 53, op := .slice 5 (.t 51) (some (.t 52)) none none },
  { dst := some 54, op := .copy 5 (.t 50) (.t 53) }])
 (.seq (.region [{ dst := some 55, op := .move (.t 9) },
  { dst := some 6, op := .move (.t 55) }])
 .ret)))) .skip))
 (.seq (.region [{ dst := some 56, op := .move (.t 0) },
  { dst := some 57, op := .move (.t 8) },
  { dst := some 58, op := .move (.t 7) },
  { dst := some 59, op := .bin .add (.t 57) (.t 58) },
  { dst := some 60, op := .slice 5 (.t 56) none (some (.t 59)) none },
  { dst := some 0, op := .move (.t 60) }])
 (.seq (.seq (.region [{ dst := some 61, op := .move (.t 2) },
  { dst := some 62, op := .move (.t 0) },
  { dst := some 63, op := .move (.t 1) },
  { dst := some 64, op := .move (.t 7) },
  { dst := some 65, op := .bin .add (.t 63) (.t 64) },
  { dst := some 66, op := .slice 5 (.t 62) (some (.t 65)) none none },
  { dst := some 67, op := .call 346 [(.t 61), (.t 66)] },
  { dst := some 68, op := .un .not (.t 67) }])
 (.cond (.t 68) (.seq (.dregion [{ dst := some 69, op := .move (.t 0) },
  { dst := some 70, op := .move (.t 1) },
  { dst := some 71, op := .move (.t 7) },
  { dst := some 72, op := .bin .add (.t 70) (.t 71) },
  { dst := some 73, op := .slice 5 (.t 69) (some (.t 72)) none none },
  { dst := some 74, op := .move (.t 0) },
  { dst := some 75, op := .move (.t 1) },
  { dst := some 76, op := .slice 5 (.t 74) (some (.t 75)) none none },
  { dst := some 77, op := .copy 5 (.t 73) (.t 76) }])
 (.seq (.region [{ dst := some 78, op := .move (.t 0) },
  { dst := some 79, op := .move (.t 1) },
  { dst := some 80, op := .slice 5 (.t 78) (some (.t 79)) none none },
  { dst := some 81, op := .move (.t 2) },
  { dst := some 82, op := .copy 5 (.t 80) (.t 81) }])
 (.seq (.region [{ dst := some 83, op := .move (.t 0) },
  { dst := some 6, op := .move (.t 83) }])
 .ret))) .skip))
 (.seq (.region [{ dst := some 84, op := .move (.t 0) },
  { dst := some 85, op := .move (.t 8) },
  { dst := some 86, op := .slice 5 (.t 84) (some (.t 85)) none none },
  { dst := some 87, op := .move (.t 2) },
  { dst := some 88, op := .copy 5 (.t 86) (.t 87) }])
 (.seq (.region [{ dst := some 89, op := .move (.t 0) },
  { dst := some 90, op := .move (.t 1) },
  { dst := some 91, op := .slice 5 (.t 89) (some (.t 90)) none none },
  { dst := some 92, op := .move (.t 7) },
  { dst := some 93, op := .call 347 [(.t 91), (.t 92)] }])
 (.seq (.region [{ dst := some 94, op := .move (.t 0) },
  { dst := some 6, op := .move (.t 94) }])
 .ret))))))))))))⟩
/-- slices.insertionSortCmpFunc[arras.api.Node] -/
def F321 : AFun := ⟨false, 53, [], (.seq (.region [{ dst := some 10, op := .move (.t 1) },
  { dst := some 11, op := .bin .add (.t 10) (.c (.v (.int .i64 1))) },
  { dst := some 8, op := .move (.t 11) }])
 (.block 0 (.loop (.seq (.seq (.region [{ dst := some 12, op := .move (.t 8) },
  { dst := some 13, op := .move (.t 2) },
  { dst := some 14, op := .bin .lss (.t 12) (.t 13) }])
 (.cond (.t 14) .skip (.exit 0)))
 (.seq (.block 1 (.seq (.region [{ dst := some 17, op := .move (.t 8) },
  { dst := some 9, op := .move (.t 17) }])
 (.block 2 (.loop (.seq (.seq (.dregion [{ dst := some 18, op := .move (.t 9) },
  { dst := some 19, op := .move (.t 1) },
  { dst := some 20, op := .bin .gtr (.t 18) (.t 19) },
  { dst := some 21, op := .move (.t 20) },
  { dst := some 22, op := .move (.t 3), guard := some (21, true) },
  { dst := some 23, op := .move (.t 0), guard := some (21, true) },
  { dst := some 24, op := .move (.t 9), guard := some (21, true) },
  { dst := some 25, op := .iaddr 5 (.t 23) (.t 24), guard := some (21, true) },
  { dst := some 26, op := .load true 5 (.t 25), guard := some (21, true) },
  { dst := some 27, op := .move (.t 0), guard := some (21, true) },
  { dst := some 28, op := .move (.t 9), guard := some (21, true) },
  { dst := some 29, op := .bin .sub (.t 28) (.c (.v (.int .i64 1))), guard := some (21, true) },
  { dst := some 30, op := .iaddr 5 (.t 27) (.t 29), guard := some (21, true) },
  { dst := some 31, op := .load true 5 (.t 30), guard := some (21, true) },
  { dst := some 32, op := .callv (.t 22) [(.t 26), (.t 31)], guard := some (21, true) },
  { dst := some 33, op := .bin .lss (.t 32) (.c (.v (.int .i64 0))), guard := some (21, true) },
  { dst := some 34, op := .pick (.t 21) (.t 33) (.c (.v (.bool false))) }])
 (.cond (.t 34) .skip (.exit 2)))
 (.seq (.block 3 (.dregion [{ dst := some 37, op := .move (.t 0) },
  { dst := some 38, op := .move (.t 9) },
  { dst := some 39, op := .move (.t 0) },
  { dst := some 40, op := .move (.t 9) },
  { dst := some 41, op := .bin .sub (.t 40) (.c (.v (.int .i64 1))) },
  { dst := some 42, op := .move (.t 0) },
  { dst := some 43, op := .move (.t 9) },
  { dst := some 44, op := .bin .sub (.t 43) (.c (.v (.int .i64 1))) },
  { dst := some 45, op := .iaddr 5 (.t 42) (.t 44) },
  { dst := some 46, op := .load true 5 (.t 45) },
  { dst := some 47, op := .move (.t 0) },
  { dst := some 48, op := .move (.t 9) },
  { dst := some 49, op := .iaddr 5 (.t 47) (.t 48) },
  { dst := some 50, op := .load true 5 (.t 49) },
  { dst := some 51, op := .iaddr 5 (.t 37) (.t 38) },
  { dst := none, op := .store 5 (.t 51) (.t 46) },
  { dst := some 52, op := .iaddr 5 (.t 39) (.t 41) },
  { dst := none, op := .store 5 (.t 52) (.t 50) }]))
 (.region [{ dst := some 35, op := .move (.t 9) },
  { dst := some 36, op := .bin .sub (.t 35) (.c (.v (.int .i64 1))) },
  { dst := some 9, op := .move (.t 36) }])))))))
 (.region [{ dst := some 15, op := .move (.t 8) },
  { dst := some 16, op := .bin .add (.t 15) (.c (.v (.int .i64 1))) },
  { dst := some 8, op := .move (.t 16) }]))))))⟩
/-- slices.choosePivotCmpFunc[arras.api.Node] -/
def F324 : AFun := ⟨false, 63, [.t 8, .t 9], (.seq (.region [{ dst := some 8, op := .move (.c (.v (.int .i64 0))) },
  { dst := some 9, op := .move (.c (.v (.int .i64 0))) }])
 (.seq (.region [{ dst := some 15, op := .move (.t 2) },
  { dst := some 16, op := .move (.t 1) },
  { dst := some 17, op := .bin .sub (.t 15) (.t 16) },
  { dst := some 10, op := .move (.t 17) }])
 (.seq (.region [{ dst := some 11, op := .alloc 3 [.v (.int .i64 0)] }])
 (.seq (.region [{ dst := some 18, op := .move (.t 1) },
  { dst := some 19, op := .move (.t 10) },
  { dst := some 20, op := .bin .quo (.t 19) (.c (.v (.int .i64 4))) },
  { dst := some 21, op := .bin .mul (.t 20) (.c (.v (.int .i64 1))) },
  { dst := some 22, op := .bin .add (.t 18) (.t 21) },
  { dst := some 12, op := .move (.t 22) }])
 (.seq (.region [{ dst := some 23, op := .move (.t 1) },
  { dst := some 24, op := .move (.t 10) },
  { dst := some 25, op := .bin .quo (.t 24) (.c (.v (.int .i64 4))) },
  { dst := some 26, op := .bin .mul (.t 25) (.c (.v (.int .i64 2))) },
  { dst := some 27, op := .bin .add (.t 23) (.t 26) },
  { dst := some 13, op := .move (.t 27) }])
 (.seq (.region [{ dst := some 28, op := .move (.t 1) },
  { dst := some 29, op := .move (.t 10) },
  { dst := some 30, op := .bin .quo (.t 29) (.c (.v (.int .i64 4))) },
  { dst := some 31, op := .bin .mul (.t 30) (.c (.v (.int .i64 3))) },
  { dst := some 32, op := .bin .add (.t 28) (.t 31) },
  { dst := some 14, op := .move (.t 32) }])
 (.seq (.seq (.region [{ dst := some 33, op := .move (.t 10) },
  { dst := some 34, op := .bin .geq (.t 33) (.c (.v (.int .i64 8))) }])
 (.cond (.t 34) (.seq (.seq (.region [{ dst := some 35, op := .move (.t 10) },
  { dst := some 36, op := .bin .geq (.t 35) (.c (.v (.int .i64 50))) }])
 (.cond (.t 36) (.seq (.region [{ dst := some 37, op := .move (.t 0) },
  { dst := some 38, op := .move (.t 12) },
  { dst := some 39, op := .move (.t 3) },
  { dst := some 40, op := .call 354 [(.t 37), (.t 38), (.t 11), (.t 39)] },
  { dst := some 12, op := .move (.t 40) }])
 (.seq (.region [{ dst := some 41, op := .move (.t 0) },
  { dst := some 42, op := .move (.t 13) },
  { dst := some 43, op := .move (.t 3) },
  { dst := some 44, op := .call 354 [(.t 41), (.t 42), (.t 11), (.t 43)] },
  { dst := some 13, op := .move (.t 44) }])
 (.region [{ dst := some 45, op := .move (.t 0) },
  { dst := some 46, op := .move (.t 14) },
  { dst := some 47, op := .move (.t 3) },
  { dst := some 48, op := .call 354 [(.t 45), (.t 46), (.t 11), (.t 47)] },
  { dst := some 14, op := .move (.t 48) }]))) .skip))
 (.region [{ dst := some 49, op := .move (.t 0) },
  { dst := some 50, op := .move (.t 12) },
  { dst := some 51, op := .move (.t 13) },
  { dst := some 52, op := .move (.t 14) },
  { dst := some 53, op := .move (.t 3) },
  { dst := some 54, op := .call 355 [(.t 49), (.t 50), (.t 51), (.t 52), (.t 11), (.t 53)] },
  { dst := some 13, op := .move (.t 54) }])) .skip))
 (.seq (.region [{ dst := some 55, op := .load false 1 (.t 11) }])
 (.block 0 (.seq (.region [{ dst := some 58, op := .bin .eql (.t 55) (.c (.v (.int .i64 0))) },
  { dst := some 57, op := .move (.t 58) }])
 (.cond (.t 57) (.seq (.region [{ dst := some 59, op := .move (.t 13) },
  { dst := some 8, op := .move (.t 59) },
  { dst := some 9, op := .move (.c (.v (.int .i64 1))) }])
 .ret) (.seq (.region [{ dst := some 61, op := .bin .eql (.t 55) (.c (.v (.int .i64 12))) },
  { dst := some 60, op := .move (.t 61) }])
 (.cond (.t 60) (.seq (.region [{ dst := some 62, op := .move (.t 13) },
  { dst := some 8, op := .move (.t 62) },
  { dst := some 9, op := .move (.c (.v (.int .i64 2))) }])
 .ret) (.seq (.region [{ dst := some 56, op := .move (.t 13) },
  { dst := some 8, op := .move (.t 56) },
  { dst := some 9, op := .move (.c (.v (.int .i64 0))) }])
 .ret))))))))))))))⟩
/-- slices.partialInsertionSortCmpFunc[arras.api.Node] -/
def F326 : AFun := ⟨false, 141, [.t 8], (.seq (.region [{ dst := some 8, op := .move (.c (.v (.bool false))) }])
 (.seq (.region [{ dst := some 13, op := .move (.t 1) },
  { dst := some 14, op := .bin .add (.t 13) (.c (.v (.int .i64 1))) },
  { dst := some 9, op := .move (.t 14) }])
 (.seq (.seq (.region [{ dst := some 10, op := .move (.c (.v (.int .i64 0))) }])
 (.block 0 (.loop (.seq (.seq (.region [{ dst := some 15, op := .move (.t 10) },
  { dst := some 16, op := .bin .lss (.t 15) (.c (.v (.int .i64 5))) }])
 (.cond (.t 16) .skip (.exit 0)))
 (.seq (.block 1 (.seq (.block 2 (.loop (.seq (.seq (.dregion [{ dst := some 19, op := .move (.t 9) },
  { dst := some 20, op := .move (.t 2) },
  { dst := some 21, op := .bin .lss (.t 19) (.t 20) },
  { dst := some 22, op := .move (.t 21) },
  { dst := some 23, op := .move (.t 3), guard := some (22, true) },
  { dst := some 24, op := .move (.t 0), guard := some (22, true) },
  { dst := some 25, op := .move (.t 9), guard := some (22, true) },
  { dst := some 26, op := .iaddr 5 (.t 24) (.t 25), guard := some (22, true) },
  { dst := some 27, op := .load true 5 (.t 26), guard := some (22, true) },
  { dst := some 28, op := .move (.t 0), guard := some (22, true) },
  { dst := some 29, op := .move (.t 9), guard := some (22, true) },
  { dst := some 30, op := .bin .sub (.t 29) (.c (.v (.int .i64 1))), guard := some (22, true) },
  { dst := some 31, op := .iaddr 5 (.t 28) (.t 30), guard := some (22, true) },
  { dst := some 32, op := .load true 5 (.t 31), guard := some (22, true) },
  { dst := some 33, op := .callv (.t 23) [(.t 27), (.t 32)], guard := some (22, true) },
  { dst := some 34, op := .bin .lss (.t 33) (.c (.v (.int .i64 0))), guard := some (22, true) },
  { dst := some 35, op := .un .not (.t 34), guard := some (22, true) },
  { dst := some 36, op := .pick (.t 22) (.t 35) (.c (.v (.bool false))) }])
 (.cond (.t 36) .skip (.exit 2)))
 (.block 3 (.region [{ dst := some 37, op := .move (.t 9) },
  { dst := some 38, op := .bin .add (.t 37) (.c (.v (.int .i64 1))) },
  { dst := some 9, op := .move (.t 38) }])))))
 (.seq (.seq (.region [{ dst := some 39, op := .move (.t 9) },
  { dst := some 40, op := .move (.t 2) },
  { dst := some 41, op := .bin .eql (.t 39) (.t 40) }])
 (.cond (.t 41) (.seq (.region [{ dst := some 8, op := .move (.c (.v (.bool true))) }])
 .ret) .skip))
 (.seq (.seq (.region [{ dst := some 42, op := .move (.t 2) },
  { dst := some 43, op := .move (.t 1) },
  { dst := some 44, op := .bin .sub (.t 42) (.t 43) },
  { dst := some 45, op := .bin .lss (.t 44) (.c (.v (.int .i64 50))) }])
 (.cond (.t 45) (.seq (.region [{ dst := some 8, op := .move (.c (.v (.bool false))) }])
 .ret) .skip))
 (.seq (.dregion [{ dst := some 46, op := .move (.t 0) },
  { dst := some 47, op := .move (.t 9) },
  { dst := some 48, op := .move (.t 0) },
  { dst := some 49, op := .move (.t 9) },
  { dst := some 50, op := .bin .sub (.t 49) (.c (.v (.int .i64 1))) },
  { dst := some 51, op := .move (.t 0) },
  { dst := some 52, op := .move (.t 9) },
  { dst := some 53, op := .bin .sub (.t 52) (.c (.v (.int .i64 1))) },
  { dst := some 54, op := .iaddr 5 (.t 51) (.t 53) },
  { dst := some 55, op := .load true 5 (.t 54) },
  { dst := some 56, op := .move (.t 0) },
  { dst := some 57, op := .move (.t 9) },
  { dst := some 58, op := .iaddr 5 (.t 56) (.t 57) },
  { dst := some 59, op := .load true 5 (.t 58) },
  { dst := some 60, op := .iaddr 5 (.t 46) (.t 47) },
  { dst := none, op := .store 5 (.t 60) (.t 55) },
  { dst := some 61, op := .iaddr 5 (.t 48) (.t 50) },
  { dst := none, op := .store 5 (.t 61) (.t 59) }])
 (.seq (.seq (.region [{ dst := some 62, op := .move (.t 9) },
  { dst := some 63, op := .move (.t 1) },
  { dst := some 64, op := .bin .sub (.t 62) (.t 63) },
  { dst := some 65, op := .bin .geq (.t 64) (.c (.v (.int .i64 2))) }])
 (.cond (.t 65) (.seq (.region [{ dst := some 66, op := .move (.t 9) },
  { dst := some 67, op := .bin .sub (.t 66) (.c (.v (.int .i64 1))) },
  { dst := some 11, op := .move (.t 67) }])
 (.block 4 (.loop (.seq (.seq (.region [{ dst := some 68, op := .move (.t 11) },
  { dst := some 69, op := .bin .geq (.t 68) (.c (.v (.int .i64 1))) }])
 (.cond (.t 69) .skip (.exit 4)))
 (.seq (.block 5 (.seq (.seq (.dregion [{ dst := some 72, op := .move (.t 3) },
  { dst := some 73, op := .move (.t 0) },
  { dst := some 74, op := .move (.t 11) },
  { dst := some 75, op := .iaddr 5 (.t 73) (.t 74) },
  { dst := some 76, op := .load true 5 (.t 75) },
  { dst := some 77, op := .move (.t 0) },
  { dst := some 78, op := .move (.t 11) },
  { dst := some 79, op := .bin .sub (.t 78) (.c (.v (.int .i64 1))) },
  { dst := some 80, op := .iaddr 5 (.t 77) (.t 79) },
  { dst := some 81, op := .load true 5 (.t 80) },
  { dst := some 82, op := .callv (.t 72) [(.t 76), (.t 81)] },
  { dst := some 83, op := .bin .lss (.t 82) (.c (.v (.int .i64 0))) },
  { dst := some 84, op := .un .not (.t 83) }])
 (.cond (.t 84) (.exit 4) .skip))
 (.dregion [{ dst := some 85, op := .move (.t 0) },
  { dst := some 86, op := .move (.t 11) },
  { dst := some 87, op := .move (.t 0) },
  { dst := some 88, op := .move (.t 11) },
  { dst := some 89, op := .bin .sub (.t 88) (.c (.v (.int .i64 1))) },
  { dst := some 90, op := .move (.t 0) },
  { dst := some 91, op := .move (.t 11) },
  { dst := some 92, op := .bin .sub (.t 91) (.c (.v (.int .i64 1))) },
  { dst := some 93, op := .iaddr 5 (.t 90) (.t 92) },
  { dst := some 94, op := .load true 5 (.t 93) },
  { dst := some 95, op := .move (.t 0) },
  { dst := some 96, op := .move (.t 11) },
  { dst := some 97, op := .iaddr 5 (.t 95) (.t 96) },
  { dst := some 98, op := .load true 5 (.t 97) },
  { dst := some 99, op := .iaddr 5 (.t 85) (.t 86) },
  { dst := none, op := .store 5 (.t 99) (.t 94) },
  { dst := some 100, op := .iaddr 5 (.t 87) (.t 89) },
  { dst := none, op := .store 5 (.t 100) (.t 98) }])))
 (.region [{ dst := some 70, op := .move (.t 11) },
  { dst := some 71, op := .bin .sub (.t 70) (.c (.v (.int .i64 1))) },
  { dst := some 11, op := .move (.t 71) }])))))) .skip))
 (.seq (.region [{ dst := some 101, op := .move (.t 2) },
  { dst := some 102, op := .move (.t 9) },
  { dst := some 103, op := .bin .sub (.t 101) (.t 102) },
  { dst := some 104, op := .bin .geq (.t 103) (.c (.v (.int .i64 2))) }])
 (.cond (.t 104) (.seq (.region [{ dst := some 105, op := .move (.t 9) },
  { dst := some 106, op := .bin .add (.t 105) (.c (.v (.int .i64 1))) },
  { dst := some 12, op := .move (.t 106) }])
 (.block 6 (.loop (.seq (.seq (.region [{ dst := some 107, op := .move (.t 12) },
  { dst := some 108, op := .move (.t 2) },
  { dst := some 109, op := .bin .lss (.t 107) (.t 108) }])
 (.cond (.t 109) .skip (.exit 6)))
 (.seq (.block 7 (.seq (.seq (.dregion [{ dst := some 112, op := .move (.t 3) },
  { dst := some 113, op := .move (.t 0) },
  { dst := some 114, op := .move (.t 12) },
  { dst := some 115, op := .iaddr 5 (.t 113) (.t 114) },
  { dst := some 116, op := .load true 5 (.t 115) },
  { dst := some 117, op := .move (.t 0) },
  { dst := some 118, op := .move (.t 12) },
  { dst := some 119, op := .bin .sub (.t 118) (.c (.v (.int .i64 1))) },
  { dst := some 120, op := .iaddr 5 (.t 117) (.t 119) },
  { dst := some 121, op := .load true 5 (.t 120) },
  { dst := some 122, op := .callv (.t 112) [(.t 116), (.t 121)] },
  { dst := some 123, op := .bin .lss (.t 122) (.c (.v (.int .i64 0))) },
  { dst := some 124, op := .un .not (.t 123) }])
 (.cond (.t 124) (.exit 6) .skip))
 (.dregion [{ dst := some 125, op := .move (.t 0) },
  { dst := some 126, op := .move (.t 12) },
  { dst := some 127, op := .move (.t 0) },
  { dst := some 128, op := .move (.t 12) },
  { dst := some 129, op := .bin .sub (.t 128) (.c (.v (.int .i64 1))) },
  { dst := some 130, op := .move (.t 0) },
  { dst := some 131, op := .move (.t 12) },
  { dst := some 132, op := .bin .sub (.t 131) (.c (.v (.int .i64 1))) },
  { dst := some 133, op := .iaddr 5 (.t 130) (.t 132) },
  { dst := some 134, op := .load true 5 (.t 133) },
  { dst := some 135, op := .move (.t 0) },
  { dst := some 136, op := .move (.t 12) },
  { dst := some 137, op := .iaddr 5 (.t 135) (.t 136) },
  { dst := some 138, op := .load true 5 (.t 137) },
  { dst := some 139, op := .iaddr 5 (.t 125) (.t 126) },
  { dst := none, op := .store 5 (.t 139) (.t 134) },
  { dst := some 140, op := .iaddr 5 (.t 127) (.t 129) },
  { dst := none, op := .store 5 (.t 140) (.t 138) }])))
 (.region [{ dst := some 110, op := .move (.t 12) },
  { dst := some 111, op := .bin .add (.t 110) (.c (.v (.int .i64 1))) },
  { dst := some 12, op := .move (.t 111) }])))))) .skip))))))))
 (.region [{ dst := some 17, op := .move (.t 10) },
  { dst := some 18, op := .bin .add (.t 17) (.c (.v (.int .i64 1))) },
  { dst := some 10, op := .move (.t 18) }]))))))
 (.seq (.region [{ dst := some 8, op := .move (.c (.v (.bool false))) }])
 .ret))))⟩
/-- math.bits.Len64 -/
def F330 : AFun := ⟨true, 25, [.t 2], (.seq (.region [{ dst := some 2, op := .move (.c (.v (.int .i64 0))) }])
 (.seq (.seq (.region [{ dst := some 3, op := .move (.t 0) },
  { dst := some 4, op := .bin .geq (.t 3) (.c (.v (.int .u64 4294967296))) }])
 (.cond (.t 4) (.seq (.region [{ dst := some 5, op := .move (.t 0) },
  { dst := some 6, op := .bin .shr (.t 5) (.c (.v (.int .u64 32))) },
  { dst := some 0, op := .move (.t 6) }])
 (.region [{ dst := some 2, op := .move (.c (.v (.int .i64 32))) }])) .skip))
 (.seq (.seq (.region [{ dst := some 7, op := .move (.t 0) },
  { dst := some 8, op := .bin .geq (.t 7) (.c (.v (.int .u64 65536))) }])
 (.cond (.t 8) (.seq (.region [{ dst := some 9, op := .move (.t 0) },
  { dst := some 10, op := .bin .shr (.t 9) (.c (.v (.int .u64 16))) },
  { dst := some 0, op := .move (.t 10) }])
 (.region [{ dst := some 11, op := .move (.t 2) },
  { dst := some 12, op := .bin .add (.t 11) (.c (.v (.int .i64 16))) },
  { dst := some 2, op := .move (.t 12) }])) .skip))
 (.seq (.seq (.region [{ dst := some 13, op := .move (.t 0) },
  { dst := some 14, op := .bin .geq (.t 13) (.c (.v (.int .u64 256))) }])
 (.cond (.t 14) (.seq (.region [{ dst := some 15, op := .move (.t 0) },
  { dst := some 16, op := .bin .shr (.t 15) (.c (.v (.int .u64 8))) },
  { dst := some 0, op := .move (.t 16) }])
 (.region [{ dst := some 17, op := .move (.t 2) },
  { dst := some 18, op := .bin .add (.t 17) (.c (.v (.int .i64 8))) },
  { dst := some 2, op := .move (.t 18) }])) .skip))
 (.seq (.region [{ dst := some 19, op := .move (.t 2) },
  { dst := some 20, op := .move (.t 0) },
  { dst := some 21, op := .conv .u8 (.t 20) },
  { dst := some 22, op := .index (.c (.v (.string ⟨#[0, 1, 2, 2, 3, 3, 3, 3, 4, 4, 4, 4, 4, 4, 4, 4, 5, 5, 5, 5, 5, 5, 5, 5, 5, 5, 5, 5, 5, 5, 5, 5, 6, 6, 6, 6, 6, 6, 6, 6, 6, 6, 6, 6, 6, 6, 6, 6, 6, 6, 6, 6, 6, 6, 6, 6, 6, 6, 6, 6, 6, 6, 6, 6, 7, 7, 7, 7, 7, 7, 7, 7, 7, 7, 7, 7, 7, 7, 7, 7, 7, 7, 7, 7, 7, 7, 7, 7, 7, 7, 7, 7, 7, 7, 7, 7, 7, 7, 7, 7, 7, 7, 7, 7, 7, 7, 7, 7, 7, 7, 7, 7, 7, 7, 7, 7, 7, 7, 7, 7, 7, 7, 7, 7, 7, 7, 7, 7, 8, 8, 8, 8, 8, 8, 8, 8, 8, 8, 8, 8, 8, 8, 8, 8, 8, 8, 8, 8, 8, 8, 8, 8, 8, 8, 8, 8, 8, 8, 8, 8, 8, 8, 8, 8, 8, 8, 8, 8, 8, 8, 8, 8, 8, 8, 8, 8, 8, 8, 8, 8, 8, 8, 8, 8, 8, 8, 8, 8, 8, 8, 8, 8, 8, 8, 8, 8, 8, 8, 8, 8, 8, 8, 8, 8, 8, 8, 8, 8, 8, 8, 8, 8, 8, 8, 8, 8, 8, 8, 8, 8, 8, 8, 8, 8, 8, 8, 8, 8, 8, 8, 8, 8, 8, 8, 8, 8, 8, 8, 8, 8, 8, 8, 8, 8, 8, 8, 8, 8, 8, 8, 8, 8, 8, 8, 8, 8]⟩))) (.t 21) },
  { dst := some 23, op := .conv .i64 (.t 22) },
  { dst := some 24, op := .bin .add (.t 19) (.t 23) },
  { dst := some 2, op := .move (.t 24) }])
 .ret)))))⟩
/-- slices.medianCmpFunc[arras.api.Node] -/
def F355 : AFun := ⟨false, 41, [.t 12], (.seq (.region [{ dst := some 12, op := .move (.c (.v (.int .i64 0))) }])
 (.seq (.region [{ dst := some 14, op := .move (.t 0) },
  { dst := some 15, op := .move (.t 1) },
  { dst := some 16, op := .move (.t 2) },
  { dst := some 17, op := .move (.t 4) },
  { dst := some 18, op := .move (.t 5) },
  { dst := some 19, op := .call 370 [(.t 14), (.t 15), (.t 16), (.t 17), (.t 18)] },
  { dst := some 13, op := .move (.t 19) },
  { dst := some 20, op := .ext (.t 13) 0 },
  { dst := some 21, op := .ext (.t 13) 1 },
  { dst := some 1, op := .move (.t 20) },
  { dst := some 2, op := .move (.t 21) }])
 (.seq (.region [{ dst := some 23, op := .move (.t 0) },
  { dst := some 24, op := .move (.t 2) },
  { dst := some 25, op := .move (.t 3) },
  { dst := some 26, op := .move (.t 4) },
  { dst := some 27, op := .move (.t 5) },
  { dst := some 28, op := .call 370 [(.t 23), (.t 24), (.t 25), (.t 26), (.t 27)] },
  { dst := some 22, op := .move (.t 28) },
  { dst := some 29, op := .ext (.t 22) 0 },
  { dst := some 30, op := .ext (.t 22) 1 },
  { dst := some 2, op := .move (.t 29) },
  { dst := some 3, op := .move (.t 30) }])
 (.seq (.region [{ dst := some 32, op := .move (.t 0) },
  { dst := some 33, op := .move (.t 1) },
  { dst := some 34, op := .move (.t 2) },
  { dst := some 35, op := .move (.t 4) },
  { dst := some 36, op := .move (.t 5) },
  { dst := some 37, op := .call 370 [(.t 32), (.t 33), (.t 34), (.t 35), (.t 36)] },
  { dst := some 31, op := .move (.t 37) },
  { dst := some 38, op := .ext (.t 31) 0 },
  { dst := some 39, op := .ext (.t 31) 1 },
  { dst := some 1, op := .move (.t 38) },
  { dst := some 2, op := .move (.t 39) }])
 (.seq (.region [{ dst := some 40, op := .move (.t 2) },
  { dst := some 12, op := .move (.t 40) }])
 .ret)))))⟩
/-- slices.order2CmpFunc[arras.api.Node] -/
def F370 : AFun := ⟨false, 32, [.t 10, .t 11], (.seq (.region [{ dst := some 10, op := .move (.c (.v (.int .i64 0))) },
  { dst := some 11, op := .move (.c (.v (.int .i64 0))) }])
 (.seq (.seq (.dregion [{ dst := some 12, op := .move (.t 4) },
  { dst := some 13, op := .move (.t 0) },
  { dst := some 14, op := .move (.t 2) },
  { dst := some 15, op := .iaddr 5 (.t 13) (.t 14) },
  { dst := some 16, op := .load true 5 (.t 15) },
  { dst := some 17, op := .move (.t 0) },
  { dst := some 18, op := .move (.t 1) },
  { dst := some 19, op := .iaddr 5 (.t 17) (.t 18) },
  { dst := some 20, op := .load true 5 (.t 19) },
  { dst := some 21, op := .callv (.t 12) [(.t 16), (.t 20)] },
  { dst := some 22, op := .bin .lss (.t 21) (.c (.v (.int .i64 0))) }])
 (.cond (.t 22) (.seq (.region [{ dst := some 23, op := .move (.t 3) },
  { dst := some 24, op := .nilChk (.t 23) },
  { dst := some 25, op := .load false 1 (.t 24) },
  { dst := some 26, op := .bin .add (.t 25) (.c (.v (.int .i64 1))) },
  { dst := some 27, op := .nilChk (.t 23) },
  { dst := none, op := .store 1 (.t 27) (.t 26) }])
 (.seq (.region [{ dst := some 28, op := .move (.t 2) },
  { dst := some 29, op := .move (.t 1) },
  { dst := some 10, op := .move (.t 28) },
  { dst := some 11, op := .move (.t 29) }])
 .ret)) .skip))
 (.seq (.region [{ dst := some 30, op := .move (.t 1) },
  { dst := some 31, op := .move (.t 2) },
  { dst := some 10, op := .move (.t 30) },
  { dst := some 11, op := .move (.t 31) }])
 .ret)))⟩
end Go.Am.Fs
