import Derived.Test.YtgkokjkoifdbnaaGreatAm0
/- The functions of the program as the interpreter has them. -/
set_option maxRecDepth 100000
namespace Go.Am.Fs
open Go.Am

/-- slices.DeleteFunc[[]arras.api.Op,arras.api.Op] -/
def F214 : AFun := ⟨false, 42, [.t 4], (.seq (.region [{ dst := some 4, op := .move (.c (.v (.slice none 0 0))) }])
 (.seq (.region [{ dst := some 8, op := .move (.t 0) },
  { dst := some 9, op := .move (.t 1) },
  { dst := some 10, op := .call 179 [(.t 8), (.t 9)] },
  { dst := some 5, op := .move (.t 10) }])
 (.seq (.seq (.region [{ dst := some 11, op := .move (.t 5) },
  { dst := some 12, op := .bin .eql (.t 11) (.c (.v (.int .i64 (-1)))) }])
 (.cond (.t 12) (.seq (.region [{ dst := some 13, op := .move (.t 0) },
  { dst := some 4, op := .move (.t 13) }])
 .ret) .skip))
 (.seq (.seq (.region [{ dst := some 14, op := .move (.t 5) },
  { dst := some 15, op := .bin .add (.t 14) (.c (.v (.int .i64 1))) },
  { dst := some 6, op := .move (.t 15) }])
 (.block 0 (.loop (.seq (.seq (.region [{ dst := some 16, op := .move (.t 6) },
  { dst := some 17, op := .move (.t 0) },
  { dst := some 18, op := .len (.t 17) },
  { dst := some 19, op := .bin .lss (.t 16) (.t 18) }])
 (.cond (.t 19) .skip (.exit 0)))
 (.seq (.block 1 (.seq (.region [{ dst := some 22, op := .move (.t 0) },
  { dst := some 23, op := .move (.t 6) },
  { dst := some 24, op := .iaddr 12 (.t 22) (.t 23) },
  { dst := some 25, op := .load true 12 (.t 24) },
  { dst := some 7, op := .alloc 75 [.v (.int .i64 0), .v (.int .i64 0), .v (.int .i64 0), .v (.slice none 0 0), .v (.int .i64 0), .v (.int .i64 0), .v (.int .i64 0), .v (.int .i64 0), .v (.int .i64 0), .v (.string ⟨#[]⟩), .v (.int .i64 0), .v (.int .i64 0)] },
  { dst := none, op := .store 12 (.t 7) (.t 25) }])
 (.seq (.region [{ dst := some 26, op := .move (.t 1) },
  { dst := some 27, op := .load true 12 (.t 7) },
  { dst := some 28, op := .callv (.t 26) [(.t 27)] },
  { dst := some 29, op := .un .not (.t 28) }])
 (.cond (.t 29) (.seq (.region [{ dst := some 30, op := .move (.t 0) },
  { dst := some 31, op := .move (.t 5) },
  { dst := some 32, op := .load true 12 (.t 7) },
  { dst := some 33, op := .iaddr 12 (.t 30) (.t 31) },
  { dst := none, op := .store 12 (.t 33) (.t 32) }])
 (.region [{ dst := some 34, op := .move (.t 5) },
  { dst := some 35, op := .bin .add (.t 34) (.c (.v (.int .i64 1))) },
  { dst := some 5, op := .move (.t 35) }])) .skip))))
 (.region [{ dst := some 20, op := .move (.t 6) },
  { dst := some 21, op := .bin .add (.t 20) (.c (.v (.int .i64 1))) },
  { dst := some 6, op := .move (.t 21) }]))))))
 (.seq (.region [{ dst := some 36, op := .move (.t 0) },
  { dst := some 37, op := .move (.t 5) },
  { dst := some 38, op := .slice 12 (.t 36) (some (.t 37)) none none },
  { dst := none, op := .clear 12 [.v (.int .i64 0), .v (.int .i64 0), .v (.int .i64 0), .v (.slice none 0 0), .v (.int .i64 0), .v (.int .i64 0), .v (.int .i64 0), .v (.int .i64 0), .v (.int .i64 0), .v (.string ⟨#[]⟩), .v (.int .i64 0), .v (.int .i64 0)] (.t 38) }])
 (.seq (.region [{ dst := some 39, op := .move (.t 0) },
  { dst := some 40, op := .move (.t 5) },
  { dst := some 41, op := .slice 12 (.t 39) none (some (.t 40)) none },
  { dst := some 4, op := .move (.t 41) }])
 .ret))))))⟩
/-- arras.hold.Let$3 -/
def F215 : AFun := ⟨true, 13, [.t 3], (.seq (.region [{ dst := some 2, op := .box 75 12 (.t 0) },
  { dst := some 3, op := .move (.c (.v (.bool false))) }])
 (.seq (.dregion [{ dst := some 4, op := .faddr 2 (.t 2) },
  { dst := some 5, op := .load false 1 (.t 4) },
  { dst := some 6, op := .load false 1 (.t 1) },
  { dst := some 7, op := .faddr 0 (.t 2) },
  { dst := some 8, op := .faddr 1 (.t 7) },
  { dst := some 9, op := .load false 1 (.t 8) },
  { dst := some 10, op := .iaddr 1 (.t 6) (.t 9) },
  { dst := some 11, op := .load false 1 (.t 10) },
  { dst := some 12, op := .bin .leq (.t 5) (.t 11) },
  { dst := some 3, op := .move (.t 12) }])
 .ret))⟩
/-- (*arras.op.reader).read -/
def F220 : AFun := ⟨false, 83, [.cell 2 true 12], (.seq (.region [{ dst := some 2, op := .alloc 75 [.v (.int .i64 0), .v (.int .i64 0), .v (.int .i64 0), .v (.slice none 0 0), .v (.int .i64 0), .v (.int .i64 0), .v (.int .i64 0), .v (.int .i64 0), .v (.int .i64 0), .v (.string ⟨#[]⟩), .v (.int .i64 0), .v (.int .i64 0)] }])
 (.seq (.region [{ dst := some 9, op := .move (.t 0) },
  { dst := some 10, op := .call 262 [(.t 9)] },
  { dst := some 11, op := .faddr 0 (.t 2) },
  { dst := none, op := .store 2 (.t 11) (.t 10) }])
 (.seq (.dregion [{ dst := some 13, op := .move (.t 0) },
  { dst := some 14, op := .nilChk (.t 13) },
  { dst := some 15, op := .faddr 0 (.t 14) },
  { dst := some 16, op := .load false 1 (.t 15) },
  { dst := some 17, op := .move (.t 0) },
  { dst := some 18, op := .nilChk (.t 17) },
  { dst := some 19, op := .faddr 1 (.t 18) },
  { dst := some 20, op := .load false 1 (.t 19) },
  { dst := some 21, op := .slice 1 (.t 16) (some (.t 20)) none none },
  { dst := some 22, op := .call 206 [(.t 21)] },
  { dst := some 12, op := .move (.t 22) },
  { dst := some 23, op := .ext (.t 12) 0 },
  { dst := some 24, op := .ext (.t 12) 1 },
  { dst := some 25, op := .ext (.t 12) 2 },
  { dst := some 3, op := .move (.t 23) },
  { dst := some 4, op := .move (.t 24) },
  { dst := some 5, op := .move (.t 25) }])
 (.seq (.region [{ dst := some 26, op := .move (.t 0) },
  { dst := some 27, op := .move (.t 4) },
  { dst := some 28, op := .move (.t 5) },
  { dst := some 29, op := .call 263 [(.t 26), (.t 27), (.t 28)] }])
 (.seq (.region [{ dst := some 30, op := .move (.t 3) },
  { dst := some 31, op := .faddr 3 (.t 2) },
  { dst := none, op := .store 1 (.t 31) (.t 30) }])
 (.seq (.seq (.region [{ dst := some 32, op := .move (.t 0) },
  { dst := some 33, op := .call 264 [(.t 32)] },
  { dst := some 34, op := .faddr 4 (.t 2) },
  { dst := none, op := .store 1 (.t 34) (.t 33) }])
 (.seq (.region [{ dst := some 35, op := .faddr 4 (.t 2) },
  { dst := some 36, op := .load false 1 (.t 35) },
  { dst := some 37, op := .bin .neq (.t 36) (.c (.v (.int .i64 1))) },
  { dst := some 38, op := .move (.t 37) },
  { dst := some 39, op := .faddr 4 (.t 2), guard := some (38, true) },
  { dst := some 40, op := .load false 1 (.t 39), guard := some (38, true) },
  { dst := some 41, op := .bin .neq (.t 40) (.c (.v (.int .i64 2))), guard := some (38, true) },
  { dst := some 42, op := .pick (.t 38) (.t 41) (.c (.v (.bool false))) }])
 (.cond (.t 42) (.region [{ dst := some 43, op := .move (.t 0) },
  { dst := some 44, op := .call 263 [(.t 43), (.c (.v (.int .i64 0))), (.c (.v (.int .i64 1)))] }]) .skip)))
 (.seq (.seq (.region [{ dst := some 45, op := .move (.t 0) },
  { dst := some 46, op := .call 262 [(.t 45)] },
  { dst := some 47, op := .faddr 5 (.t 2) },
  { dst := none, op := .store 2 (.t 47) (.t 46) }])
 (.seq (.region [{ dst := some 48, op := .faddr 4 (.t 2) },
  { dst := some 49, op := .load false 1 (.t 48) },
  { dst := some 50, op := .bin .eql (.t 49) (.c (.v (.int .i64 1))) }])
 (.cond (.t 50) (.seq (.region [{ dst := some 51, op := .move (.t 0) },
  { dst := some 52, op := .call 262 [(.t 51)] },
  { dst := some 53, op := .faddr 7 (.t 2) },
  { dst := none, op := .store 2 (.t 53) (.t 52) }])
 (.seq (.dregion [{ dst := some 55, op := .move (.t 0) },
  { dst := some 56, op := .nilChk (.t 55) },
  { dst := some 57, op := .faddr 0 (.t 56) },
  { dst := some 58, op := .load false 1 (.t 57) },
  { dst := some 59, op := .move (.t 0) },
  { dst := some 60, op := .nilChk (.t 59) },
  { dst := some 61, op := .faddr 1 (.t 60) },
  { dst := some 62, op := .load false 1 (.t 61) },
  { dst := some 63, op := .slice 1 (.t 58) (some (.t 62)) none none },
  { dst := some 64, op := .call 265 [(.t 63)] },
  { dst := some 54, op := .move (.t 64) },
  { dst := some 65, op := .ext (.t 54) 0 },
  { dst := some 66, op := .ext (.t 54) 1 },
  { dst := some 67, op := .ext (.t 54) 2 },
  { dst := some 6, op := .move (.t 65) },
  { dst := some 7, op := .move (.t 66) },
  { dst := some 8, op := .move (.t 67) }])
 (.seq (.region [{ dst := some 68, op := .move (.t 0) },
  { dst := some 69, op := .move (.t 7) },
  { dst := some 70, op := .move (.t 8) },
  { dst := some 71, op := .call 263 [(.t 68), (.t 69), (.t 70)] }])
 (.seq (.region [{ dst := some 72, op := .move (.t 6) },
  { dst := some 73, op := .faddr 9 (.t 2) },
  { dst := none, op := .store 1 (.t 73) (.t 72) }])
 (.seq (.region [{ dst := some 74, op := .load true 12 (.t 2) },
  { dst := none, op := .store 12 (.t 2) (.t 74) }])
 .ret))))) .skip)))
 (.seq (.region [{ dst := some 75, op := .move (.t 0) },
  { dst := some 76, op := .call 264 [(.t 75)] },
  { dst := some 77, op := .faddr 10 (.t 2) },
  { dst := none, op := .store 1 (.t 77) (.t 76) }])
 (.seq (.region [{ dst := some 78, op := .move (.t 0) },
  { dst := some 79, op := .call 264 [(.t 78)] },
  { dst := some 80, op := .bin .sub (.t 79) (.c (.v (.int .i64 1))) },
  { dst := some 81, op := .faddr 11 (.t 2) },
  { dst := none, op := .store 1 (.t 81) (.t 80) }])
 (.seq (.region [{ dst := some 82, op := .load true 12 (.t 2) },
  { dst := none, op := .store 12 (.t 2) (.t 82) }])
 .ret))))))))))⟩
/-- slices.Clone[[]arras.api.Node,arras.api.Node] -/
def F224 : AFun := ⟨false, 8, [.t 2], (.seq (.region [{ dst := some 2, op := .move (.c (.v (.slice none 0 0))) }])
 (.seq (.seq (.region [{ dst := some 3, op := .move (.t 0) },
  { dst := some 4, op := .eqNilS false (.t 3) }])
 (.cond (.t 4) (.seq (.region [{ dst := some 2, op := .move (.c (.v (.slice none 0 0))) }])
 .ret) .skip))
 (.seq (.region [{ dst := some 5, op := .buildSlice 197 5 0 [.v (.int .i64 0), .v (.int .i64 0), .v (.int .i64 0), .v (.int .i64 0), .v (.string ⟨#[]⟩)] [] },
  { dst := some 6, op := .move (.t 0) },
  { dst := some 7, op := .append 197 5 48 (.t 5) (.t 6) },
  { dst := some 2, op := .move (.t 7) }])
 .ret)))⟩
/-- slices.Clone[[]arras.api.Entry,arras.api.Entry] -/
def F225 : AFun := ⟨false, 8, [.t 2], (.seq (.region [{ dst := some 2, op := .move (.c (.v (.slice none 0 0))) }])
 (.seq (.seq (.region [{ dst := some 3, op := .move (.t 0) },
  { dst := some 4, op := .eqNilS false (.t 3) }])
 (.cond (.t 4) (.seq (.region [{ dst := some 2, op := .move (.c (.v (.slice none 0 0))) }])
 .ret) .skip))
 (.seq (.region [{ dst := some 5, op := .buildSlice 200 17 0 [.v (.int .i64 0), .v (.int .i64 0), .v (.int .i64 0), .v (.slice none 0 0), .v (.int .i64 0), .v (.int .i64 0), .v (.int .i64 0), .v (.int .i64 0), .v (.int .i64 0), .v (.string ⟨#[]⟩), .v (.int .i64 0), .v (.int .i64 0), .v (.bool false), .v (.int .i64 0), .v (.int .i64 0), .v (.string ⟨#[]⟩), .v (.bool false)] [] },
  { dst := some 6, op := .move (.t 0) },
  { dst := some 7, op := .append 200 17 168 (.t 5) (.t 6) },
  { dst := some 2, op := .move (.t 7) }])
 .ret)))⟩
/-- cmp.Or[int] -/
def F226 : AFun := ⟨true, 18, [.t 2], (.seq (.region [{ dst := some 2, op := .move (.c (.v (.int .i64 0))) }])
 (.seq (.region [{ dst := some 3, op := .move (.c (.v (.int .i64 0))) }])
 (.seq (.seq (.region [{ dst := some 6, op := .move (.t 0) },
  { dst := some 7, op := .len (.t 6) },
  { dst := some 8, op := .move (.c (.v (.int .i64 0))) }])
 (.block 0 (.loop (.seq (.region [{ dst := some 9, op := .bin .lss (.t 8) (.t 7) }])
 (.seq (.cond (.t 9) .skip (.exit 0))
 (.seq (.block 1 (.seq (.region [{ dst := some 10, op := .iaddr 1 (.t 6) (.t 8) },
  { dst := some 11, op := .load false 1 (.t 10) },
  { dst := some 5, op := .move (.t 11) }])
 (.seq (.region [{ dst := some 12, op := .move (.t 5) },
  { dst := some 13, op := .move (.t 3) },
  { dst := some 14, op := .bin .neq (.t 12) (.t 13) }])
 (.cond (.t 14) (.seq (.region [{ dst := some 15, op := .move (.t 5) },
  { dst := some 2, op := .move (.t 15) }])
 .ret) .skip))))
 (.region [{ dst := some 16, op := .bin .add (.t 8) (.c (.v (.int .i64 1))) },
  { dst := some 8, op := .move (.t 16) }])))))))
 (.seq (.region [{ dst := some 17, op := .move (.t 3) },
  { dst := some 2, op := .move (.t 17) }])
 .ret))))⟩
/-- cmp.Compare[int] -/
def F227 : AFun := ⟨true, 20, [.t 4], (.seq (.region [{ dst := some 4, op := .move (.c (.v (.int .i64 0))) }])
 (.seq (.region [{ dst := some 7, op := .move (.t 0) },
  { dst := some 8, op := .call 269 [(.t 7)] },
  { dst := some 5, op := .move (.t 8) }])
 (.seq (.region [{ dst := some 9, op := .move (.t 1) },
  { dst := some 10, op := .call 269 [(.t 9)] },
  { dst := some 6, op := .move (.t 10) }])
 (.seq (.seq (.region [{ dst := some 11, op := .move (.t 5) }])
 (.cond (.t 11) (.seq (.seq (.region [{ dst := some 12, op := .move (.t 6) }])
 (.cond (.t 12) (.seq (.region [{ dst := some 4, op := .move (.c (.v (.int .i64 0))) }])
 .ret) .skip))
 (.seq (.region [{ dst := some 4, op := .move (.c (.v (.int .i64 (-1)))) }])
 .ret)) .skip))
 (.seq (.seq (.region [{ dst := some 13, op := .move (.t 6) }])
 (.cond (.t 13) (.seq (.region [{ dst := some 4, op := .move (.c (.v (.int .i64 1))) }])
 .ret) .skip))
 (.seq (.seq (.region [{ dst := some 14, op := .move (.t 0) },
  { dst := some 15, op := .move (.t 1) },
  { dst := some 16, op := .bin .lss (.t 14) (.t 15) }])
 (.cond (.t 16) (.seq (.region [{ dst := some 4, op := .move (.c (.v (.int .i64 (-1)))) }])
 .ret) .skip))
 (.seq (.seq (.region [{ dst := some 17, op := .move (.t 0) },
  { dst := some 18, op := .move (.t 1) },
  { dst := some 19, op := .bin .gtr (.t 17) (.t 18) }])
 (.cond (.t 19) (.seq (.region [{ dst := some 4, op := .move (.c (.v (.int .i64 1))) }])
 .ret) .skip))
 (.seq (.region [{ dst := some 4, op := .move (.c (.v (.int .i64 0))) }])
 .ret))))))))⟩
/-- arras.tree.find -/
def F228 : AFun := ⟨true, 11, [.t 4, .t 5], (.seq (.region [{ dst := some 3, op := .box 41 2 (.t 1) },
  { dst := some 4, op := .move (.c (.v (.int .i64 0))) },
  { dst := some 5, op := .move (.c (.v (.bool false))) }])
 (.seq (.region [{ dst := some 6, op := .move (.t 0) },
  { dst := some 7, op := .load true 2 (.t 3) },
  { dst := some 8, op := .call 270 [(.t 6), (.t 7), (.c (.fn 271 []))] },
  { dst := some 9, op := .ext (.t 8) 0 },
  { dst := some 10, op := .ext (.t 8) 1 },
  { dst := some 4, op := .move (.t 9) },
  { dst := some 5, op := .move (.t 10) }])
 .ret))⟩
/-- arras.prop.Is -/
def F229 : AFun := ⟨true, 9, [.t 2], (.seq (.region [{ dst := some 2, op := .move (.c (.v (.bool false))) }])
 (.seq (.region [{ dst := some 3, op := .move (.t 0) },
  { dst := some 4, op := .bin .geq (.t 3) (.c (.v (.int .i64 0))) },
  { dst := some 5, op := .move (.t 4) },
  { dst := some 6, op := .move (.t 0), guard := some (5, true) },
  { dst := some 7, op := .bin .lss (.t 6) (.c (.v (.int .i64 19))), guard := some (5, true) },
  { dst := some 8, op := .pick (.t 5) (.t 7) (.c (.v (.bool false))) },
  { dst := some 2, op := .move (.t 8) }])
 .ret))⟩
/-- arras.tree.Lives -/
def F230 : AFun := ⟨true, 27, [.t 4], (.seq (.region [{ dst := some 2, op := .box 27 2 (.t 0) },
  { dst := some 3, op := .box 41 2 (.t 1) },
  { dst := some 4, op := .move (.c (.v (.bool false))) }])
 (.seq (.region [{ dst := some 6, op := .load true 2 (.t 2) },
  { dst := some 7, op := .load true 2 (.t 3) },
  { dst := some 8, op := .call 237 [(.t 6), (.t 7)] },
  { dst := some 5, op := .move (.t 8) }])
 (.seq (.dregion [{ dst := some 9, op := .load true 2 (.t 3) },
  { dst := some 10, op := .call 189 [] },
  { dst := some 11, op := .eqAgg false [1, 1] (.t 9) (.t 10) },
  { dst := some 12, op := .move (.t 11) },
  { dst := some 13, op := .move (.t 5), guard := some (12, false) },
  { dst := some 14, op := .len (.t 13), guard := some (12, false) },
  { dst := some 15, op := .bin .gtr (.t 14) (.c (.v (.int .i64 0))), guard := some (12, false) },
  { dst := some 16, op := .move (.t 15), guard := some (12, false) },
  { dst := some 17, op := .move (.t 5), guard := some (16, true) },
  { dst := some 18, op := .move (.t 5), guard := some (16, true) },
  { dst := some 19, op := .len (.t 18), guard := some (16, true) },
  { dst := some 20, op := .bin .sub (.t 19) (.c (.v (.int .i64 1))), guard := some (16, true) },
  { dst := some 21, op := .iaddr 2 (.t 17) (.t 20), guard := some (16, true) },
  { dst := some 22, op := .load true 2 (.t 21), guard := some (16, true) },
  { dst := some 23, op := .call 189 [], guard := some (16, true) },
  { dst := some 24, op := .eqAgg false [1, 1] (.t 22) (.t 23), guard := some (16, true) },
  { dst := some 25, op := .pick (.t 16) (.t 24) (.c (.v (.bool false))), guard := some (12, false) },
  { dst := some 26, op := .pick (.t 12) (.c (.v (.bool true))) (.t 25) },
  { dst := some 4, op := .move (.t 26) }])
 .ret)))⟩
/-- arras.tree.Children -/
def F231 : AFun := ⟨true, 26, [.t 4], (.seq (.region [{ dst := some 2, op := .box 27 2 (.t 0) },
  { dst := some 3, op := .box 41 2 (.t 1) },
  { dst := some 4, op := .move (.c (.v (.slice none 0 0))) }])
 (.seq (.seq (.region [{ dst := some 7, op := .faddr 0 (.t 2) },
  { dst := some 8, op := .load false 1 (.t 7) },
  { dst := some 9, op := .len (.t 8) },
  { dst := some 10, op := .move (.c (.v (.int .i64 0))) }])
 (.block 0 (.loop (.seq (.region [{ dst := some 11, op := .bin .lss (.t 10) (.t 9) }])
 (.seq (.cond (.t 11) .skip (.exit 0))
 (.seq (.block 1 (.seq (.region [{ dst := some 12, op := .iaddr 5 (.t 8) (.t 10) },
  { dst := some 13, op := .load true 5 (.t 12) },
  { dst := some 6, op := .alloc 197 [.v (.int .i64 0), .v (.int .i64 0), .v (.int .i64 0), .v (.int .i64 0), .v (.string ⟨#[]⟩)] },
  { dst := none, op := .store 5 (.t 6) (.t 13) }])
 (.seq (.region [{ dst := some 14, op := .faddr 2 (.t 6) },
  { dst := some 15, op := .load true 2 (.t 14) },
  { dst := some 16, op := .load true 2 (.t 3) },
  { dst := some 17, op := .eqAgg false [1, 1] (.t 15) (.t 16) }])
 (.cond (.t 17) (.region [{ dst := some 18, op := .move (.t 4) },
  { dst := some 19, op := .load true 5 (.t 6) },
  { dst := some 20, op := .buildSlice 197 5 1 [.v (.int .i64 0), .v (.int .i64 0), .v (.int .i64 0), .v (.int .i64 0), .v (.string ⟨#[]⟩)] [(0, 5, (.t 19))] },
  { dst := some 21, op := .append 197 5 48 (.t 18) (.t 20) },
  { dst := some 4, op := .move (.t 21) }]) .skip))))
 (.region [{ dst := some 22, op := .bin .add (.t 10) (.c (.v (.int .i64 1))) },
  { dst := some 10, op := .move (.t 22) }])))))))
 (.seq (.region [{ dst := some 23, op := .move (.t 4) },
  { dst := some 24, op := .call 272 [(.t 23), (.c (.fn 273 []))] }])
 (.seq (.region [{ dst := some 25, op := .move (.t 4) },
  { dst := some 4, op := .move (.t 25) }])
 .ret))))⟩
/-- slices.IndexFunc[[]arras.api.Node,arras.api.Node] -/
def F232 : AFun := ⟨true, 19, [.t 4], (.seq (.region [{ dst := some 4, op := .move (.c (.v (.int .i64 0))) }])
 (.seq (.seq (.region [{ dst := some 6, op := .move (.t 0) },
  { dst := some 7, op := .len (.t 6) },
  { dst := some 8, op := .move (.c (.v (.int .i64 0))) }])
 (.block 0 (.loop (.seq (.region [{ dst := some 9, op := .bin .lss (.t 8) (.t 7) }])
 (.seq (.cond (.t 9) .skip (.exit 0))
 (.seq (.block 1 (.seq (.region [{ dst := some 10, op := .move (.t 8) },
  { dst := some 5, op := .move (.t 10) }])
 (.seq (.region [{ dst := some 11, op := .move (.t 1) },
  { dst := some 12, op := .move (.t 0) },
  { dst := some 13, op := .move (.t 5) },
  { dst := some 14, op := .iaddr 5 (.t 12) (.t 13) },
  { dst := some 15, op := .load true 5 (.t 14) },
  { dst := some 16, op := .callv (.t 11) [(.t 15)] }])
 (.cond (.t 16) (.seq (.region [{ dst := some 17, op := .move (.t 5) },
  { dst := some 4, op := .move (.t 17) }])
 .ret) .skip))))
 (.region [{ dst := some 18, op := .bin .add (.t 8) (.c (.v (.int .i64 1))) },
  { dst := some 8, op := .move (.t 18) }])))))))
 (.seq (.region [{ dst := some 4, op := .move (.c (.v (.int .i64 (-1)))) }])
 .ret)))⟩
/-- arras.shape.Gap$1 -/
def F233 : AFun := ⟨true, 8, [.t 3], (.seq (.region [{ dst := some 2, op := .box 197 5 (.t 0) },
  { dst := some 3, op := .move (.c (.v (.bool false))) }])
 (.seq (.region [{ dst := some 4, op := .faddr 0 (.t 2) },
  { dst := some 5, op := .load true 2 (.t 4) },
  { dst := some 6, op := .load true 2 (.t 1) },
  { dst := some 7, op := .eqAgg false [1, 1] (.t 5) (.t 6) },
  { dst := some 3, op := .move (.t 7) }])
 .ret))⟩
/-- arras.key.Between -/
def F234 : AFun := ⟨true, 73, [.t 4, .t 5], (.seq (.region [{ dst := some 4, op := .move (.c (.v (.string ⟨#[]⟩))) },
  { dst := some 5, op := .move (.c (.v (.int .i64 0))) }])
 (.scope (.seq (.seq (.region [{ dst := some 11, op := .move (.t 0) },
  { dst := some 12, op := .bin .neq (.t 11) (.c (.v (.string ⟨#[]⟩))) },
  { dst := some 13, op := .move (.t 12) },
  { dst := some 14, op := .move (.t 0), guard := some (13, true) },
  { dst := some 15, op := .call 192 [(.t 14)], guard := some (13, true) },
  { dst := some 16, op := .un .not (.t 15), guard := some (13, true) },
  { dst := some 17, op := .pick (.t 13) (.t 16) (.c (.v (.bool false))) },
  { dst := some 18, op := .move (.t 17) },
  { dst := some 19, op := .move (.t 1), guard := some (18, false) },
  { dst := some 20, op := .bin .neq (.t 19) (.c (.v (.string ⟨#[]⟩))), guard := some (18, false) },
  { dst := some 21, op := .move (.t 20), guard := some (18, false) },
  { dst := some 22, op := .move (.t 1), guard := some (21, true) },
  { dst := some 23, op := .call 192 [(.t 22)], guard := some (21, true) },
  { dst := some 24, op := .un .not (.t 23), guard := some (21, true) },
  { dst := some 25, op := .move (.t 24), guard := some (21, true) },
  { dst := some 26, op := .move (.t 0), guard := some (25, false) },
  { dst := some 27, op := .move (.t 1), guard := some (25, false) },
  { dst := some 28, op := .bin .geq (.t 26) (.t 27), guard := some (25, false) },
  { dst := some 29, op := .pick (.t 25) (.c (.v (.bool true))) (.t 28), guard := some (21, true) },
  { dst := some 30, op := .pick (.t 21) (.t 29) (.c (.v (.bool false))), guard := some (18, false) },
  { dst := some 31, op := .pick (.t 18) (.c (.v (.bool true))) (.t 30) }])
 (.cond (.t 31) (.seq (.region [{ dst := some 4, op := .move (.c (.v (.string ⟨#[]⟩))) },
  { dst := some 5, op := .move (.c (.v (.int .i64 1))) }])
 .ret) .skip))
 (.seq (.region [{ dst := some 6, op := .move (.c (.v (.slice none 0 0))) }])
 (.seq (.region [{ dst := some 7, op := .move (.c (.v (.int .i64 0))) }])
 (.seq (.region [{ dst := some 32, op := .move (.t 1) },
  { dst := some 33, op := .bin .eql (.t 32) (.c (.v (.string ⟨#[]⟩))) },
  { dst := some 8, op := .move (.t 33) }])
 (.seq (.label 0)
 (.seq (.seq (.region [{ dst := some 34, op := .move (.t 7) },
  { dst := some 35, op := .bin .eql (.t 34) (.c (.v (.int .i64 64))) }])
 (.cond (.t 35) (.seq (.region [{ dst := some 4, op := .move (.c (.v (.string ⟨#[]⟩))) },
  { dst := some 5, op := .move (.c (.v (.int .i64 5))) }])
 .ret) .skip))
 (.seq (.region [{ dst := some 36, op := .move (.t 0) },
  { dst := some 37, op := .move (.t 7) },
  { dst := some 38, op := .call 275 [(.t 36), (.t 37), (.c (.v (.int .i64 0)))] },
  { dst := some 9, op := .move (.t 38) },
  { dst := some 10, op := .move (.c (.v (.int .i64 256))) }])
 (.seq (.seq (.region [{ dst := some 39, op := .move (.t 8) },
  { dst := some 40, op := .un .not (.t 39) }])
 (.cond (.t 40) (.region [{ dst := some 41, op := .move (.t 1) },
  { dst := some 42, op := .move (.t 7) },
  { dst := some 43, op := .call 275 [(.t 41), (.t 42), (.c (.v (.int .i64 256)))] },
  { dst := some 10, op := .move (.t 43) }]) .skip))
 (.seq (.seq (.region [{ dst := some 44, op := .move (.t 10) },
  { dst := some 45, op := .move (.t 9) },
  { dst := some 46, op := .bin .add (.t 45) (.c (.v (.int .i64 2))) },
  { dst := some 47, op := .bin .geq (.t 44) (.t 46) }])
 (.cond (.t 47) (.seq (.region [{ dst := some 48, op := .move (.t 6) },
  { dst := some 49, op := .move (.t 9) },
  { dst := some 50, op := .move (.t 10) },
  { dst := some 51, op := .move (.t 9) },
  { dst := some 52, op := .bin .sub (.t 50) (.t 51) },
  { dst := some 53, op := .bin .quo (.t 52) (.c (.v (.int .i64 2))) },
  { dst := some 54, op := .bin .add (.t 49) (.t 53) },
  { dst := some 55, op := .conv .u8 (.t 54) },
  { dst := some 56, op := .buildSlice 5 1 1 [.v (.int .u8 0)] [(0, 1, (.t 55))] },
  { dst := some 57, op := .append 5 1 1 (.t 48) (.t 56) },
  { dst := some 58, op := .b2s (.t 57) },
  { dst := some 4, op := .move (.t 58) },
  { dst := some 5, op := .move (.c (.v (.int .i64 0))) }])
 .ret) .skip))
 (.seq (.region [{ dst := some 59, op := .move (.t 6) },
  { dst := some 60, op := .move (.t 9) },
  { dst := some 61, op := .conv .u8 (.t 60) },
  { dst := some 62, op := .buildSlice 5 1 1 [.v (.int .u8 0)] [(0, 1, (.t 61))] },
  { dst := some 63, op := .append 5 1 1 (.t 59) (.t 62) },
  { dst := some 6, op := .move (.t 63) }])
 (.seq (.region [{ dst := some 64, op := .move (.t 8) },
  { dst := some 65, op := .move (.t 64) },
  { dst := some 66, op := .move (.t 10), guard := some (65, false) },
  { dst := some 67, op := .move (.t 9), guard := some (65, false) },
  { dst := some 68, op := .bin .add (.t 67) (.c (.v (.int .i64 1))), guard := some (65, false) },
  { dst := some 69, op := .bin .eql (.t 66) (.t 68), guard := some (65, false) },
  { dst := some 70, op := .pick (.t 65) (.c (.v (.bool true))) (.t 69) },
  { dst := some 8, op := .move (.t 70) }])
 (.seq (.region [{ dst := some 71, op := .move (.t 7) },
  { dst := some 72, op := .bin .add (.t 71) (.c (.v (.int .i64 1))) },
  { dst := some 7, op := .move (.t 72) }])
 (.goto 0))))))))))))) (.seq (.seq (.region [{ dst := some 11, op := .move (.t 0) },
  { dst := some 12, op := .bin .neq (.t 11) (.c (.v (.string ⟨#[]⟩))) },
  { dst := some 13, op := .move (.t 12) },
  { dst := some 14, op := .move (.t 0), guard := some (13, true) },
  { dst := some 15, op := .call 192 [(.t 14)], guard := some (13, true) },
  { dst := some 16, op := .un .not (.t 15), guard := some (13, true) },
  { dst := some 17, op := .pick (.t 13) (.t 16) (.c (.v (.bool false))) },
  { dst := some 18, op := .move (.t 17) },
  { dst := some 19, op := .move (.t 1), guard := some (18, false) },
  { dst := some 20, op := .bin .neq (.t 19) (.c (.v (.string ⟨#[]⟩))), guard := some (18, false) },
  { dst := some 21, op := .move (.t 20), guard := some (18, false) },
  { dst := some 22, op := .move (.t 1), guard := some (21, true) },
  { dst := some 23, op := .call 192 [(.t 22)], guard := some (21, true) },
  { dst := some 24, op := .un .not (.t 23), guard := some (21, true) },
  { dst := some 25, op := .move (.t 24), guard := some (21, true) },
  { dst := some 26, op := .move (.t 0), guard := some (25, false) },
  { dst := some 27, op := .move (.t 1), guard := some (25, false) },
  { dst := some 28, op := .bin .geq (.t 26) (.t 27), guard := some (25, false) },
  { dst := some 29, op := .pick (.t 25) (.c (.v (.bool true))) (.t 28), guard := some (21, true) },
  { dst := some 30, op := .pick (.t 21) (.t 29) (.c (.v (.bool false))), guard := some (18, false) },
  { dst := some 31, op := .pick (.t 18) (.c (.v (.bool true))) (.t 30) }])
 (.cond (.t 31) (.seq (.region [{ dst := some 4, op := .move (.c (.v (.string ⟨#[]⟩))) },
  { dst := some 5, op := .move (.c (.v (.int .i64 1))) }])
 .ret) .skip))
 (.seq (.region [{ dst := some 6, op := .move (.c (.v (.slice none 0 0))) }])
 (.seq (.region [{ dst := some 7, op := .move (.c (.v (.int .i64 0))) }])
 (.seq (.region [{ dst := some 32, op := .move (.t 1) },
  { dst := some 33, op := .bin .eql (.t 32) (.c (.v (.string ⟨#[]⟩))) },
  { dst := some 8, op := .move (.t 33) }])
 (.seq (.label 0)
 (.seq (.seq (.region [{ dst := some 34, op := .move (.t 7) },
  { dst := some 35, op := .bin .eql (.t 34) (.c (.v (.int .i64 64))) }])
 (.cond (.t 35) (.seq (.region [{ dst := some 4, op := .move (.c (.v (.string ⟨#[]⟩))) },
  { dst := some 5, op := .move (.c (.v (.int .i64 5))) }])
 .ret) .skip))
 (.seq (.region [{ dst := some 36, op := .move (.t 0) },
  { dst := some 37, op := .move (.t 7) },
  { dst := some 38, op := .call 275 [(.t 36), (.t 37), (.c (.v (.int .i64 0)))] },
  { dst := some 9, op := .move (.t 38) },
  { dst := some 10, op := .move (.c (.v (.int .i64 256))) }])
 (.seq (.seq (.region [{ dst := some 39, op := .move (.t 8) },
  { dst := some 40, op := .un .not (.t 39) }])
 (.cond (.t 40) (.region [{ dst := some 41, op := .move (.t 1) },
  { dst := some 42, op := .move (.t 7) },
  { dst := some 43, op := .call 275 [(.t 41), (.t 42), (.c (.v (.int .i64 256)))] },
  { dst := some 10, op := .move (.t 43) }]) .skip))
 (.seq (.seq (.region [{ dst := some 44, op := .move (.t 10) },
  { dst := some 45, op := .move (.t 9) },
  { dst := some 46, op := .bin .add (.t 45) (.c (.v (.int .i64 2))) },
  { dst := some 47, op := .bin .geq (.t 44) (.t 46) }])
 (.cond (.t 47) (.seq (.region [{ dst := some 48, op := .move (.t 6) },
  { dst := some 49, op := .move (.t 9) },
  { dst := some 50, op := .move (.t 10) },
  { dst := some 51, op := .move (.t 9) },
  { dst := some 52, op := .bin .sub (.t 50) (.t 51) },
  { dst := some 53, op := .bin .quo (.t 52) (.c (.v (.int .i64 2))) },
  { dst := some 54, op := .bin .add (.t 49) (.t 53) },
  { dst := some 55, op := .conv .u8 (.t 54) },
  { dst := some 56, op := .buildSlice 5 1 1 [.v (.int .u8 0)] [(0, 1, (.t 55))] },
  { dst := some 57, op := .append 5 1 1 (.t 48) (.t 56) },
  { dst := some 58, op := .b2s (.t 57) },
  { dst := some 4, op := .move (.t 58) },
  { dst := some 5, op := .move (.c (.v (.int .i64 0))) }])
 .ret) .skip))
 (.seq (.region [{ dst := some 59, op := .move (.t 6) },
  { dst := some 60, op := .move (.t 9) },
  { dst := some 61, op := .conv .u8 (.t 60) },
  { dst := some 62, op := .buildSlice 5 1 1 [.v (.int .u8 0)] [(0, 1, (.t 61))] },
  { dst := some 63, op := .append 5 1 1 (.t 59) (.t 62) },
  { dst := some 6, op := .move (.t 63) }])
 (.seq (.region [{ dst := some 64, op := .move (.t 8) },
  { dst := some 65, op := .move (.t 64) },
  { dst := some 66, op := .move (.t 10), guard := some (65, false) },
  { dst := some 67, op := .move (.t 9), guard := some (65, false) },
  { dst := some 68, op := .bin .add (.t 67) (.c (.v (.int .i64 1))), guard := some (65, false) },
  { dst := some 69, op := .bin .eql (.t 66) (.t 68), guard := some (65, false) },
  { dst := some 70, op := .pick (.t 65) (.c (.v (.bool true))) (.t 69) },
  { dst := some 8, op := .move (.t 70) }])
 (.seq (.region [{ dst := some 71, op := .move (.t 7) },
  { dst := some 72, op := .bin .add (.t 71) (.c (.v (.int .i64 1))) },
  { dst := some 7, op := .move (.t 72) }])
 (.goto 0)))))))))))))))⟩
/-- arras.tree.Circles -/
def F235 : AFun := ⟨true, 16, [.t 4], (.seq (.region [{ dst := some 2, op := .box 27 2 (.t 0) },
  { dst := some 3, op := .box 75 12 (.t 1) },
  { dst := some 4, op := .move (.c (.v (.bool false))) }])
 (.seq (.region [{ dst := some 6, op := .faddr 0 (.t 2) },
  { dst := some 7, op := .load false 1 (.t 6) },
  { dst := some 8, op := .build [.v (.slice none 0 0)] [(0, 1, (.t 7))] },
  { dst := some 9, op := .box 355 1 (.t 8) },
  { dst := some 5, op := .move (.t 9) }])
 (.seq (.region [{ dst := some 10, op := .move (.t 5) },
  { dst := some 11, op := .faddr 5 (.t 3) },
  { dst := some 12, op := .load true 2 (.t 11) },
  { dst := some 13, op := .faddr 7 (.t 3) },
  { dst := some 14, op := .load true 2 (.t 13) },
  { dst := some 15, op := .call 276 [(.t 10), (.t 12), (.t 14)] },
  { dst := some 4, op := .move (.t 15) }])
 .ret)))⟩
/-- arras.shape.living -/
def F236 : AFun := ⟨true, 20, [.t 2], (.seq (.region [{ dst := some 1, op := .box 27 2 (.t 0) },
  { dst := some 2, op := .move (.c (.v (.int .i64 0))) }])
 (.seq (.seq (.region [{ dst := some 5, op := .faddr 0 (.t 1) },
  { dst := some 6, op := .load false 1 (.t 5) },
  { dst := some 7, op := .len (.t 6) },
  { dst := some 8, op := .move (.c (.v (.int .i64 0))) }])
 (.block 0 (.loop (.seq (.region [{ dst := some 9, op := .bin .lss (.t 8) (.t 7) }])
 (.seq (.cond (.t 9) .skip (.exit 0))
 (.seq (.block 1 (.seq (.region [{ dst := some 10, op := .iaddr 5 (.t 6) (.t 8) },
  { dst := some 11, op := .load true 5 (.t 10) },
  { dst := some 4, op := .alloc 197 [.v (.int .i64 0), .v (.int .i64 0), .v (.int .i64 0), .v (.int .i64 0), .v (.string ⟨#[]⟩)] },
  { dst := none, op := .store 5 (.t 4) (.t 11) }])
 (.seq (.region [{ dst := some 12, op := .load true 2 (.t 1) },
  { dst := some 13, op := .faddr 0 (.t 4) },
  { dst := some 14, op := .load true 2 (.t 13) },
  { dst := some 15, op := .call 230 [(.t 12), (.t 14)] }])
 (.cond (.t 15) (.region [{ dst := some 16, op := .move (.t 2) },
  { dst := some 17, op := .bin .add (.t 16) (.c (.v (.int .i64 1))) },
  { dst := some 2, op := .move (.t 17) }]) .skip))))
 (.region [{ dst := some 18, op := .bin .add (.t 8) (.c (.v (.int .i64 1))) },
  { dst := some 8, op := .move (.t 18) }])))))))
 (.seq (.region [{ dst := some 19, op := .move (.t 2) },
  { dst := some 2, op := .move (.t 19) }])
 .ret)))⟩
/-- arras.tree.Up -/
def F237 : AFun := ⟨true, 21, [.t 4], (.seq (.region [{ dst := some 2, op := .box 27 2 (.t 0) },
  { dst := some 3, op := .box 41 2 (.t 1) },
  { dst := some 4, op := .move (.c (.v (.slice none 0 0))) }])
 (.scope (.seq (.region [{ dst := some 5, op := .alloc 197 [.v (.int .i64 0), .v (.int .i64 0), .v (.int .i64 0), .v (.int .i64 0), .v (.string ⟨#[]⟩)] }])
 (.seq (.region [{ dst := some 6, op := .move (.c (.v (.bool false))) }])
 (.seq (.label 0)
 (.seq (.seq (.region [{ dst := some 8, op := .load true 2 (.t 2) },
  { dst := some 9, op := .load true 2 (.t 3) },
  { dst := some 10, op := .call 181 [(.t 8), (.t 9)] },
  { dst := some 7, op := .move (.t 10) },
  { dst := some 11, op := .ext (.t 7) 0 },
  { dst := some 12, op := .ext (.t 7) 1 },
  { dst := none, op := .store 5 (.t 5) (.t 11) },
  { dst := some 6, op := .move (.t 12) }])
 (.seq (.region [{ dst := some 13, op := .move (.t 6) }])
 (.cond (.t 13) (.seq (.region [{ dst := some 14, op := .faddr 2 (.t 5) },
  { dst := some 15, op := .load true 2 (.t 14) },
  { dst := none, op := .store 2 (.t 3) (.t 15) }])
 (.seq (.region [{ dst := some 16, op := .move (.t 4) },
  { dst := some 17, op := .load true 2 (.t 3) },
  { dst := some 18, op := .buildSlice 41 2 1 [.v (.int .i64 0), .v (.int .i64 0)] [(0, 2, (.t 17))] },
  { dst := some 19, op := .append 41 2 16 (.t 16) (.t 18) },
  { dst := some 4, op := .move (.t 19) }])
 (.goto 0))) .skip)))
 (.seq (.region [{ dst := some 20, op := .move (.t 4) },
  { dst := some 4, op := .move (.t 20) }])
 .ret))))) (.seq (.region [{ dst := some 5, op := .alloc 197 [.v (.int .i64 0), .v (.int .i64 0), .v (.int .i64 0), .v (.int .i64 0), .v (.string ⟨#[]⟩)] }])
 (.seq (.region [{ dst := some 6, op := .move (.c (.v (.bool false))) }])
 (.seq (.label 0)
 (.seq (.seq (.region [{ dst := some 8, op := .load true 2 (.t 2) },
  { dst := some 9, op := .load true 2 (.t 3) },
  { dst := some 10, op := .call 181 [(.t 8), (.t 9)] },
  { dst := some 7, op := .move (.t 10) },
  { dst := some 11, op := .ext (.t 7) 0 },
  { dst := some 12, op := .ext (.t 7) 1 },
  { dst := none, op := .store 5 (.t 5) (.t 11) },
  { dst := some 6, op := .move (.t 12) }])
 (.seq (.region [{ dst := some 13, op := .move (.t 6) }])
 (.cond (.t 13) (.seq (.region [{ dst := some 14, op := .faddr 2 (.t 5) },
  { dst := some 15, op := .load true 2 (.t 14) },
  { dst := none, op := .store 2 (.t 3) (.t 15) }])
 (.seq (.region [{ dst := some 16, op := .move (.t 4) },
  { dst := some 17, op := .load true 2 (.t 3) },
  { dst := some 18, op := .buildSlice 41 2 1 [.v (.int .i64 0), .v (.int .i64 0)] [(0, 2, (.t 17))] },
  { dst := some 19, op := .append 41 2 16 (.t 16) (.t 18) },
  { dst := some 4, op := .move (.t 19) }])
 (.goto 0))) .skip)))
 (.seq (.region [{ dst := some 20, op := .move (.t 4) },
  { dst := some 4, op := .move (.t 20) }])
 .ret)))))))⟩
/-- arras.shape.tall -/
def F238 : AFun := ⟨true, 25, [.t 4], (.seq (.region [{ dst := some 2, op := .box 27 2 (.t 0) },
  { dst := some 3, op := .box 41 2 (.t 1) },
  { dst := some 4, op := .move (.c (.v (.int .i64 0))) }])
 (.seq (.region [{ dst := some 5, op := .move (.c (.v (.int .i64 0))) }])
 (.seq (.seq (.region [{ dst := some 8, op := .load true 2 (.t 2) },
  { dst := some 9, op := .load true 2 (.t 3) },
  { dst := some 10, op := .call 231 [(.t 8), (.t 9)] },
  { dst := some 11, op := .len (.t 10) },
  { dst := some 12, op := .move (.c (.v (.int .i64 0))) }])
 (.block 0 (.loop (.seq (.region [{ dst := some 13, op := .bin .lss (.t 12) (.t 11) }])
 (.seq (.cond (.t 13) .skip (.exit 0))
 (.seq (.block 1 (.seq (.region [{ dst := some 14, op := .iaddr 5 (.t 10) (.t 12) },
  { dst := some 15, op := .load true 5 (.t 14) },
  { dst := some 7, op := .alloc 197 [.v (.int .i64 0), .v (.int .i64 0), .v (.int .i64 0), .v (.int .i64 0), .v (.string ⟨#[]⟩)] },
  { dst := none, op := .store 5 (.t 7) (.t 15) }])
 (.region [{ dst := some 16, op := .move (.t 5) },
  { dst := some 17, op := .load true 2 (.t 2) },
  { dst := some 18, op := .faddr 0 (.t 7) },
  { dst := some 19, op := .load true 2 (.t 18) },
  { dst := some 20, op := .call 238 [(.t 17), (.t 19)] },
  { dst := some 21, op := .max [(.t 16), (.t 20)] },
  { dst := some 5, op := .move (.t 21) }])))
 (.region [{ dst := some 22, op := .bin .add (.t 12) (.c (.v (.int .i64 1))) },
  { dst := some 12, op := .move (.t 22) }])))))))
 (.seq (.region [{ dst := some 23, op := .move (.t 5) },
  { dst := some 24, op := .bin .add (.t 23) (.c (.v (.int .i64 1))) },
  { dst := some 4, op := .move (.t 24) }])
 .ret))))⟩
/-- arras.prop.ruleOf -/
def F242 : AFun := ⟨true, 41, [.cell 2 true 4], (.seq (.region [{ dst := some 2, op := .alloc 317 [.v (.int .i64 0), .v (.int .i64 0), .v (.int .i64 0), .v (.bool false)] }])
 (.seq (.seq (.region [{ dst := some 3, op := .move (.t 0) }])
 (.block 0 (.seq (.region [{ dst := some 5, op := .bin .eql (.t 3) (.c (.v (.int .i64 0))) },
  { dst := some 4, op := .move (.t 5) }])
 (.cond (.t 4) (.seq (.region [{ dst := some 6, op := .build [.v (.int .i64 0), .v (.int .i64 0), .v (.int .i64 0), .v (.bool false)] [(1, 1, (.c (.v (.int .i64 2))))] },
  { dst := none, op := .store 4 (.t 2) (.t 6) }])
 .ret) (.seq (.seq (.region [{ dst := some 8, op := .bin .eql (.t 3) (.c (.v (.int .i64 1))) },
  { dst := some 7, op := .move (.t 8) }])
 (.cond (.t 7) .skip (.region [{ dst := some 9, op := .bin .eql (.t 3) (.c (.v (.int .i64 2))) },
  { dst := some 7, op := .move (.t 9) }])))
 (.cond (.t 7) (.seq (.region [{ dst := some 10, op := .build [.v (.int .i64 0), .v (.int .i64 0), .v (.int .i64 0), .v (.bool false)] [(1, 1, (.c (.v (.int .i64 1))))] },
  { dst := none, op := .store 4 (.t 2) (.t 10) }])
 .ret) (.seq (.seq (.region [{ dst := some 12, op := .bin .eql (.t 3) (.c (.v (.int .i64 3))) },
  { dst := some 11, op := .move (.t 12) }])
 (.cond (.t 11) .skip (.seq (.region [{ dst := some 13, op := .bin .eql (.t 3) (.c (.v (.int .i64 4))) },
  { dst := some 11, op := .move (.t 13) }])
 (.cond (.t 11) .skip (.seq (.region [{ dst := some 14, op := .bin .eql (.t 3) (.c (.v (.int .i64 6))) },
  { dst := some 11, op := .move (.t 14) }])
 (.cond (.t 11) .skip (.seq (.region [{ dst := some 15, op := .bin .eql (.t 3) (.c (.v (.int .i64 8))) },
  { dst := some 11, op := .move (.t 15) }])
 (.cond (.t 11) .skip (.region [{ dst := some 16, op := .bin .eql (.t 3) (.c (.v (.int .i64 11))) },
  { dst := some 11, op := .move (.t 16) }])))))))))
 (.cond (.t 11) (.seq (.region [{ dst := some 17, op := .build [.v (.int .i64 0), .v (.int .i64 0), .v (.int .i64 0), .v (.bool false)] [(0, 1, (.c (.v (.int .i64 (-1))))), (1, 1, (.c (.v (.int .i64 1099511627776)))), (2, 1, (.c (.v (.int .i64 (-1)))))] },
  { dst := none, op := .store 4 (.t 2) (.t 17) }])
 .ret) (.seq (.seq (.region [{ dst := some 19, op := .bin .eql (.t 3) (.c (.v (.int .i64 5))) },
  { dst := some 18, op := .move (.t 19) }])
 (.cond (.t 18) .skip (.region [{ dst := some 20, op := .bin .eql (.t 3) (.c (.v (.int .i64 7))) },
  { dst := some 18, op := .move (.t 20) }])))
 (.cond (.t 18) (.seq (.region [{ dst := some 21, op := .build [.v (.int .i64 0), .v (.int .i64 0), .v (.int .i64 0), .v (.bool false)] [(1, 1, (.c (.v (.int .i64 1099511627776))))] },
  { dst := none, op := .store 4 (.t 2) (.t 21) }])
 .ret) (.seq (.region [{ dst := some 23, op := .bin .eql (.t 3) (.c (.v (.int .i64 9))) },
  { dst := some 22, op := .move (.t 23) }])
 (.cond (.t 22) (.seq (.region [{ dst := some 24, op := .build [.v (.int .i64 0), .v (.int .i64 0), .v (.int .i64 0), .v (.bool false)] [(1, 1, (.c (.v (.int .i64 1048576))))] },
  { dst := none, op := .store 4 (.t 2) (.t 24) }])
 .ret) (.seq (.region [{ dst := some 26, op := .bin .eql (.t 3) (.c (.v (.int .i64 10))) },
  { dst := some 25, op := .move (.t 26) }])
 (.cond (.t 25) (.seq (.region [{ dst := some 27, op := .build [.v (.int .i64 0), .v (.int .i64 0), .v (.int .i64 0), .v (.bool false)] [(1, 1, (.c (.v (.int .i64 1048576)))), (2, 1, (.c (.v (.int .i64 1))))] },
  { dst := none, op := .store 4 (.t 2) (.t 27) }])
 .ret) (.seq (.region [{ dst := some 29, op := .bin .eql (.t 3) (.c (.v (.int .i64 15))) },
  { dst := some 28, op := .move (.t 29) }])
 (.cond (.t 28) (.seq (.region [{ dst := some 30, op := .build [.v (.int .i64 0), .v (.int .i64 0), .v (.int .i64 0), .v (.bool false)] [(1, 1, (.c (.v (.int .i64 4))))] },
  { dst := none, op := .store 4 (.t 2) (.t 30) }])
 .ret) (.seq (.region [{ dst := some 32, op := .bin .eql (.t 3) (.c (.v (.int .i64 16))) },
  { dst := some 31, op := .move (.t 32) }])
 (.cond (.t 31) (.seq (.region [{ dst := some 33, op := .build [.v (.int .i64 0), .v (.int .i64 0), .v (.int .i64 0), .v (.bool false)] [(1, 1, (.c (.v (.int .i64 3))))] },
  { dst := none, op := .store 4 (.t 2) (.t 33) }])
 .ret) (.seq (.region [{ dst := some 35, op := .bin .eql (.t 3) (.c (.v (.int .i64 17))) },
  { dst := some 34, op := .move (.t 35) }])
 (.cond (.t 34) (.seq (.region [{ dst := some 36, op := .build [.v (.int .i64 0), .v (.int .i64 0), .v (.int .i64 0), .v (.bool false)] [(1, 1, (.c (.v (.int .i64 16777215)))), (3, 1, (.c (.v (.bool true))))] },
  { dst := none, op := .store 4 (.t 2) (.t 36) }])
 .ret) (.seq (.region [{ dst := some 38, op := .bin .eql (.t 3) (.c (.v (.int .i64 18))) },
  { dst := some 37, op := .move (.t 38) }])
 (.cond (.t 37) (.seq (.region [{ dst := some 39, op := .build [.v (.int .i64 0), .v (.int .i64 0), .v (.int .i64 0), .v (.bool false)] [(0, 1, (.c (.v (.int .i64 64)))), (1, 1, (.c (.v (.int .i64 64000)))), (2, 1, (.c (.v (.int .i64 1024)))), (3, 1, (.c (.v (.bool true))))] },
  { dst := none, op := .store 4 (.t 2) (.t 39) }])
 .ret) .skip))))))))))))))))))))))
 (.seq (.region [{ dst := some 40, op := .build [.v (.int .i64 0), .v (.int .i64 0), .v (.int .i64 0), .v (.bool false)] [(1, 1, (.c (.v (.int .i64 1073741824))))] },
  { dst := none, op := .store 4 (.t 2) (.t 40) }])
 .ret)))⟩
/-- slices.IndexFunc[[]arras.api.Entry,arras.api.Entry] -/
def F243 : AFun := ⟨true, 19, [.t 4], (.seq (.region [{ dst := some 4, op := .move (.c (.v (.int .i64 0))) }])
 (.seq (.seq (.region [{ dst := some 6, op := .move (.t 0) },
  { dst := some 7, op := .len (.t 6) },
  { dst := some 8, op := .move (.c (.v (.int .i64 0))) }])
 (.block 0 (.loop (.seq (.region [{ dst := some 9, op := .bin .lss (.t 8) (.t 7) }])
 (.seq (.cond (.t 9) .skip (.exit 0))
 (.seq (.block 1 (.seq (.region [{ dst := some 10, op := .move (.t 8) },
  { dst := some 5, op := .move (.t 10) }])
 (.seq (.region [{ dst := some 11, op := .move (.t 1) },
  { dst := some 12, op := .move (.t 0) },
  { dst := some 13, op := .move (.t 5) },
  { dst := some 14, op := .iaddr 17 (.t 12) (.t 13) },
  { dst := some 15, op := .load true 17 (.t 14) },
  { dst := some 16, op := .callv (.t 11) [(.t 15)] }])
 (.cond (.t 16) (.seq (.region [{ dst := some 17, op := .move (.t 5) },
  { dst := some 4, op := .move (.t 17) }])
 .ret) .skip))))
 (.region [{ dst := some 18, op := .bin .add (.t 8) (.c (.v (.int .i64 1))) },
  { dst := some 8, op := .move (.t 18) }])))))))
 (.seq (.region [{ dst := some 4, op := .move (.c (.v (.int .i64 (-1)))) }])
 .ret)))⟩
/-- arras.tree.Put -/
def F244 : AFun := ⟨false, 105, [.cell 4 true 2, .t 5], (.seq (.region [{ dst := some 2, op := .box 27 2 (.t 0) },
  { dst := some 3, op := .box 75 12 (.t 1) },
  { dst := some 4, op := .alloc 27 [.v (.slice none 0 0), .v (.slice none 0 0)] },
  { dst := some 5, op := .move (.c (.v (.int .i64 0))) }])
 (.scope (.seq (.region [{ dst := some 13, op := .faddr 0 (.t 2) },
  { dst := some 14, op := .load false 1 (.t 13) },
  { dst := some 15, op := .build [.v (.slice none 0 0)] [(0, 1, (.t 14))] },
  { dst := some 16, op := .box 355 1 (.t 15) },
  { dst := some 6, op := .move (.t 16) }])
 (.seq (.region [{ dst := some 17, op := .faddr 1 (.t 2) },
  { dst := some 18, op := .load false 1 (.t 17) },
  { dst := some 19, op := .len (.t 18) },
  { dst := some 7, op := .move (.t 19) }])
 (.seq (.region [{ dst := some 8, op := .move (.c (.v (.slice none 0 0))) }])
 (.seq (.label 0)
 (.seq (.seq (.dregion [{ dst := some 20, op := .move (.t 7) },
  { dst := some 21, op := .bin .gtr (.t 20) (.c (.v (.int .i64 0))) },
  { dst := some 22, op := .move (.t 21) },
  { dst := some 23, op := .load true 12 (.t 3), guard := some (22, true) },
  { dst := some 24, op := .faddr 1 (.t 2), guard := some (22, true) },
  { dst := some 25, op := .load false 1 (.t 24), guard := some (22, true) },
  { dst := some 26, op := .move (.t 7), guard := some (22, true) },
  { dst := some 27, op := .bin .sub (.t 26) (.c (.v (.int .i64 1))), guard := some (22, true) },
  { dst := some 28, op := .iaddr 17 (.t 25) (.t 27), guard := some (22, true) },
  { dst := some 29, op := .faddr 0 (.t 28), guard := some (22, true) },
  { dst := some 30, op := .load true 12 (.t 29), guard := some (22, true) },
  { dst := some 31, op := .call 130 [(.t 23), (.t 30)], guard := some (22, true) },
  { dst := some 32, op := .pick (.t 22) (.t 31) (.c (.v (.bool false))) }])
 (.cond (.t 32) (.seq (.region [{ dst := some 33, op := .move (.t 7) },
  { dst := some 34, op := .bin .sub (.t 33) (.c (.v (.int .i64 1))) },
  { dst := some 7, op := .move (.t 34) }])
 (.seq (.region [{ dst := some 35, op := .move (.t 6) },
  { dst := some 36, op := .faddr 1 (.t 2) },
  { dst := some 37, op := .load false 1 (.t 36) },
  { dst := some 38, op := .move (.t 7) },
  { dst := some 39, op := .iaddr 17 (.t 37) (.t 38) },
  { dst := some 40, op := .load true 17 (.t 39) },
  { dst := some 41, op := .call 286 [(.t 35), (.t 40)] }])
 (.goto 0))) .skip))
 (.seq (.region [{ dst := some 42, op := .faddr 1 (.t 2) },
  { dst := some 43, op := .load false 1 (.t 42) },
  { dst := some 44, op := .move (.t 7) },
  { dst := some 45, op := .slice 17 (.t 43) (some (.t 44)) none none },
  { dst := some 8, op := .move (.t 45) }])
 (.seq (.seq (.dregion [{ dst := some 46, op := .move (.t 7) },
  { dst := some 47, op := .bin .gtr (.t 46) (.c (.v (.int .i64 0))) },
  { dst := some 48, op := .move (.t 47) },
  { dst := some 49, op := .faddr 1 (.t 2), guard := some (48, true) },
  { dst := some 50, op := .load false 1 (.t 49), guard := some (48, true) },
  { dst := some 51, op := .move (.t 7), guard := some (48, true) },
  { dst := some 52, op := .bin .sub (.t 51) (.c (.v (.int .i64 1))), guard := some (48, true) },
  { dst := some 53, op := .iaddr 17 (.t 50) (.t 52), guard := some (48, true) },
  { dst := some 54, op := .faddr 0 (.t 53), guard := some (48, true) },
  { dst := some 55, op := .faddr 0 (.t 54), guard := some (48, true) },
  { dst := some 56, op := .load true 2 (.t 55), guard := some (48, true) },
  { dst := some 57, op := .faddr 0 (.t 3), guard := some (48, true) },
  { dst := some 58, op := .load true 2 (.t 57), guard := some (48, true) },
  { dst := some 59, op := .eqAgg false [1, 1] (.t 56) (.t 58), guard := some (48, true) },
  { dst := some 60, op := .pick (.t 48) (.t 59) (.c (.v (.bool false))) }])
 (.cond (.t 60) (.seq (.seq (.region [{ dst := some 61, op := .move (.t 8) },
  { dst := some 62, op := .len (.t 61) },
  { dst := some 63, op := .move (.c (.v (.int .i64 0))) }])
 (.block 0 (.loop (.seq (.region [{ dst := some 64, op := .bin .lss (.t 63) (.t 62) }])
 (.seq (.cond (.t 64) .skip (.exit 0))
 (.seq (.block 1 (.seq (.region [{ dst := some 65, op := .move (.t 63) },
  { dst := some 9, op := .move (.t 65) }])
 (.region [{ dst := some 66, op := .move (.t 6) },
  { dst := some 67, op := .move (.t 8) },
  { dst := some 68, op := .move (.t 9) },
  { dst := some 69, op := .iaddr 17 (.t 67) (.t 68) },
  { dst := some 70, op := .faddr 0 (.t 69) },
  { dst := some 71, op := .load true 12 (.t 70) },
  { dst := some 72, op := .call 287 [(.t 66), (.t 71)] }])))
 (.region [{ dst := some 73, op := .bin .add (.t 63) (.c (.v (.int .i64 1))) },
  { dst := some 63, op := .move (.t 73) }])))))))
 (.seq (.region [{ dst := some 74, op := .build [.v (.slice none 0 0), .v (.slice none 0 0)] [] },
  { dst := none, op := .store 2 (.t 4) (.t 74) },
  { dst := some 5, op := .move (.c (.v (.int .i64 4))) }])
 .ret)) .skip))
 (.seq (.dregion [{ dst := some 75, op := .faddr 1 (.t 2) },
  { dst := some 76, op := .load false 1 (.t 75) },
  { dst := some 77, op := .move (.t 7) },
  { dst := some 78, op := .slice 17 (.t 76) none (some (.t 77)) none },
  { dst := some 79, op := .call 225 [(.t 78)] },
  { dst := some 80, op := .move (.t 6) },
  { dst := some 81, op := .load true 12 (.t 3), un := [4] },
  { dst := some 82, op := .call 287 [(.t 80), (.t 81)] },
  { dst := some 83, op := .buildSlice 200 17 1 [.v (.int .i64 0), .v (.int .i64 0), .v (.int .i64 0), .v (.slice none 0 0), .v (.int .i64 0), .v (.int .i64 0), .v (.int .i64 0), .v (.int .i64 0), .v (.int .i64 0), .v (.string ⟨#[]⟩), .v (.int .i64 0), .v (.int .i64 0), .v (.bool false), .v (.int .i64 0), .v (.int .i64 0), .v (.string ⟨#[]⟩), .v (.bool false)] [(0, 17, (.t 82))] },
  { dst := some 84, op := .append 200 17 168 (.t 79) (.t 83) },
  { dst := some 10, op := .move (.t 84) }])
 (.seq (.seq (.region [{ dst := some 85, op := .move (.t 8) },
  { dst := some 86, op := .len (.t 85) },
  { dst := some 87, op := .move (.c (.v (.int .i64 0))) }])
 (.block 2 (.loop (.seq (.region [{ dst := some 88, op := .bin .lss (.t 87) (.t 86) }])
 (.seq (.cond (.t 88) .skip (.exit 2))
 (.seq (.block 3 (.seq (.region [{ dst := some 89, op := .iaddr 17 (.t 85) (.t 87) },
  { dst := some 90, op := .load true 17 (.t 89) },
  { dst := some 12, op := .alloc 200 [.v (.int .i64 0), .v (.int .i64 0), .v (.int .i64 0), .v (.slice none 0 0), .v (.int .i64 0), .v (.int .i64 0), .v (.int .i64 0), .v (.int .i64 0), .v (.int .i64 0), .v (.string ⟨#[]⟩), .v (.int .i64 0), .v (.int .i64 0), .v (.bool false), .v (.int .i64 0), .v (.int .i64 0), .v (.string ⟨#[]⟩), .v (.bool false)] },
  { dst := none, op := .store 17 (.t 12) (.t 90) }])
 (.region [{ dst := some 91, op := .move (.t 10) },
  { dst := some 92, op := .move (.t 6) },
  { dst := some 93, op := .faddr 0 (.t 12) },
  { dst := some 94, op := .load true 12 (.t 93) },
  { dst := some 95, op := .call 287 [(.t 92), (.t 94)] },
  { dst := some 96, op := .buildSlice 200 17 1 [.v (.int .i64 0), .v (.int .i64 0), .v (.int .i64 0), .v (.slice none 0 0), .v (.int .i64 0), .v (.int .i64 0), .v (.int .i64 0), .v (.int .i64 0), .v (.int .i64 0), .v (.string ⟨#[]⟩), .v (.int .i64 0), .v (.int .i64 0), .v (.bool false), .v (.int .i64 0), .v (.int .i64 0), .v (.string ⟨#[]⟩), .v (.bool false)] [(0, 17, (.t 95))] },
  { dst := some 97, op := .append 200 17 168 (.t 91) (.t 96) },
  { dst := some 10, op := .move (.t 97) }])))
 (.region [{ dst := some 98, op := .bin .add (.t 87) (.c (.v (.int .i64 1))) },
  { dst := some 87, op := .move (.t 98) }])))))))
 (.seq (.region [{ dst := some 99, op := .move (.t 6) },
  { dst := some 100, op := .nilChk (.t 99) },
  { dst := some 101, op := .faddr 0 (.t 100) },
  { dst := some 102, op := .load false 1 (.t 101) },
  { dst := some 103, op := .move (.t 10) },
  { dst := some 104, op := .build [.v (.slice none 0 0), .v (.slice none 0 0)] [(0, 1, (.t 102)), (1, 1, (.t 103))] },
  { dst := none, op := .store 2 (.t 4) (.t 104) },
  { dst := some 5, op := .move (.c (.v (.int .i64 0))) }])
 .ret)))))))))) (.seq (.region [{ dst := some 13, op := .faddr 0 (.t 2) },
  { dst := some 14, op := .load false 1 (.t 13) },
  { dst := some 15, op := .build [.v (.slice none 0 0)] [(0, 1, (.t 14))] },
  { dst := some 16, op := .box 355 1 (.t 15) },
  { dst := some 6, op := .move (.t 16) }])
 (.seq (.region [{ dst := some 17, op := .faddr 1 (.t 2) },
  { dst := some 18, op := .load false 1 (.t 17) },
  { dst := some 19, op := .len (.t 18) },
  { dst := some 7, op := .move (.t 19) }])
 (.seq (.region [{ dst := some 8, op := .move (.c (.v (.slice none 0 0))) }])
 (.seq (.label 0)
 (.seq (.seq (.dregion [{ dst := some 20, op := .move (.t 7) },
  { dst := some 21, op := .bin .gtr (.t 20) (.c (.v (.int .i64 0))) },
  { dst := some 22, op := .move (.t 21) },
  { dst := some 23, op := .load true 12 (.t 3), guard := some (22, true) },
  { dst := some 24, op := .faddr 1 (.t 2), guard := some (22, true) },
  { dst := some 25, op := .load false 1 (.t 24), guard := some (22, true) },
  { dst := some 26, op := .move (.t 7), guard := some (22, true) },
  { dst := some 27, op := .bin .sub (.t 26) (.c (.v (.int .i64 1))), guard := some (22, true) },
  { dst := some 28, op := .iaddr 17 (.t 25) (.t 27), guard := some (22, true) },
  { dst := some 29, op := .faddr 0 (.t 28), guard := some (22, true) },
  { dst := some 30, op := .load true 12 (.t 29), guard := some (22, true) },
  { dst := some 31, op := .call 130 [(.t 23), (.t 30)], guard := some (22, true) },
  { dst := some 32, op := .pick (.t 22) (.t 31) (.c (.v (.bool false))) }])
 (.cond (.t 32) (.seq (.region [{ dst := some 33, op := .move (.t 7) },
  { dst := some 34, op := .bin .sub (.t 33) (.c (.v (.int .i64 1))) },
  { dst := some 7, op := .move (.t 34) }])
 (.seq (.region [{ dst := some 35, op := .move (.t 6) },
  { dst := some 36, op := .faddr 1 (.t 2) },
  { dst := some 37, op := .load false 1 (.t 36) },
  { dst := some 38, op := .move (.t 7) },
  { dst := some 39, op := .iaddr 17 (.t 37) (.t 38) },
  { dst := some 40, op := .load true 17 (.t 39) },
  { dst := some 41, op := .call 286 [(.t 35), (.t 40)] }])
 (.goto 0))) .skip))
 (.seq (.region [{ dst := some 42, op := .faddr 1 (.t 2) },
  { dst := some 43, op := .load false 1 (.t 42) },
  { dst := some 44, op := .move (.t 7) },
  { dst := some 45, op := .slice 17 (.t 43) (some (.t 44)) none none },
  { dst := some 8, op := .move (.t 45) }])
 (.seq (.seq (.dregion [{ dst := some 46, op := .move (.t 7) },
  { dst := some 47, op := .bin .gtr (.t 46) (.c (.v (.int .i64 0))) },
  { dst := some 48, op := .move (.t 47) },
  { dst := some 49, op := .faddr 1 (.t 2), guard := some (48, true) },
  { dst := some 50, op := .load false 1 (.t 49), guard := some (48, true) },
  { dst := some 51, op := .move (.t 7), guard := some (48, true) },
  { dst := some 52, op := .bin .sub (.t 51) (.c (.v (.int .i64 1))), guard := some (48, true) },
  { dst := some 53, op := .iaddr 17 (.t 50) (.t 52), guard := some (48, true) },
  { dst := some 54, op := .faddr 0 (.t 53), guard := some (48, true) },
  { dst := some 55, op := .faddr 0 (.t 54), guard := some (48, true) },
  { dst := some 56, op := .load true 2 (.t 55), guard := some (48, true) },
  { dst := some 57, op := .faddr 0 (.t 3), guard := some (48, true) },
  { dst := some 58, op := .load true 2 (.t 57), guard := some (48, true) },
  { dst := some 59, op := .eqAgg false [1, 1] (.t 56) (.t 58), guard := some (48, true) },
  { dst := some 60, op := .pick (.t 48) (.t 59) (.c (.v (.bool false))) }])
 (.cond (.t 60) (.seq (.seq (.region [{ dst := some 61, op := .move (.t 8) },
  { dst := some 62, op := .len (.t 61) },
  { dst := some 63, op := .move (.c (.v (.int .i64 0))) }])
 (.block 0 (.loop (.seq (.region [{ dst := some 64, op := .bin .lss (.t 63) (.t 62) }])
 (.seq (.cond (.t 64) .skip (.exit 0))
 (.seq (.block 1 (.seq (.region [{ dst := some 65, op := .move (.t 63) },
  { dst := some 9, op := .move (.t 65) }])
 (.region [{ dst := some 66, op := .move (.t 6) },
  { dst := some 67, op := .move (.t 8) },
  { dst := some 68, op := .move (.t 9) },
  { dst := some 69, op := .iaddr 17 (.t 67) (.t 68) },
  { dst := some 70, op := .faddr 0 (.t 69) },
  { dst := some 71, op := .load true 12 (.t 70) },
  { dst := some 72, op := .call 287 [(.t 66), (.t 71)] }])))
 (.region [{ dst := some 73, op := .bin .add (.t 63) (.c (.v (.int .i64 1))) },
  { dst := some 63, op := .move (.t 73) }])))))))
 (.seq (.region [{ dst := some 74, op := .build [.v (.slice none 0 0), .v (.slice none 0 0)] [] },
  { dst := none, op := .store 2 (.t 4) (.t 74) },
  { dst := some 5, op := .move (.c (.v (.int .i64 4))) }])
 .ret)) .skip))
 (.seq (.dregion [{ dst := some 75, op := .faddr 1 (.t 2) },
  { dst := some 76, op := .load false 1 (.t 75) },
  { dst := some 77, op := .move (.t 7) },
  { dst := some 78, op := .slice 17 (.t 76) none (some (.t 77)) none },
  { dst := some 79, op := .call 225 [(.t 78)] },
  { dst := some 80, op := .move (.t 6) },
  { dst := some 81, op := .load true 12 (.t 3), un := [4] },
  { dst := some 82, op := .call 287 [(.t 80), (.t 81)] },
  { dst := some 83, op := .buildSlice 200 17 1 [.v (.int .i64 0), .v (.int .i64 0), .v (.int .i64 0), .v (.slice none 0 0), .v (.int .i64 0), .v (.int .i64 0), .v (.int .i64 0), .v (.int .i64 0), .v (.int .i64 0), .v (.string ⟨#[]⟩), .v (.int .i64 0), .v (.int .i64 0), .v (.bool false), .v (.int .i64 0), .v (.int .i64 0), .v (.string ⟨#[]⟩), .v (.bool false)] [(0, 17, (.t 82))] },
  { dst := some 84, op := .append 200 17 168 (.t 79) (.t 83) },
  { dst := some 10, op := .move (.t 84) }])
 (.seq (.seq (.region [{ dst := some 85, op := .move (.t 8) },
  { dst := some 86, op := .len (.t 85) },
  { dst := some 87, op := .move (.c (.v (.int .i64 0))) }])
 (.block 2 (.loop (.seq (.region [{ dst := some 88, op := .bin .lss (.t 87) (.t 86) }])
 (.seq (.cond (.t 88) .skip (.exit 2))
 (.seq (.block 3 (.seq (.region [{ dst := some 89, op := .iaddr 17 (.t 85) (.t 87) },
  { dst := some 90, op := .load true 17 (.t 89) },
  { dst := some 12, op := .alloc 200 [.v (.int .i64 0), .v (.int .i64 0), .v (.int .i64 0), .v (.slice none 0 0), .v (.int .i64 0), .v (.int .i64 0), .v (.int .i64 0), .v (.int .i64 0), .v (.int .i64 0), .v (.string ⟨#[]⟩), .v (.int .i64 0), .v (.int .i64 0), .v (.bool false), .v (.int .i64 0), .v (.int .i64 0), .v (.string ⟨#[]⟩), .v (.bool false)] },
  { dst := none, op := .store 17 (.t 12) (.t 90) }])
 (.region [{ dst := some 91, op := .move (.t 10) },
  { dst := some 92, op := .move (.t 6) },
  { dst := some 93, op := .faddr 0 (.t 12) },
  { dst := some 94, op := .load true 12 (.t 93) },
  { dst := some 95, op := .call 287 [(.t 92), (.t 94)] },
  { dst := some 96, op := .buildSlice 200 17 1 [.v (.int .i64 0), .v (.int .i64 0), .v (.int .i64 0), .v (.slice none 0 0), .v (.int .i64 0), .v (.int .i64 0), .v (.int .i64 0), .v (.int .i64 0), .v (.int .i64 0), .v (.string ⟨#[]⟩), .v (.int .i64 0), .v (.int .i64 0), .v (.bool false), .v (.int .i64 0), .v (.int .i64 0), .v (.string ⟨#[]⟩), .v (.bool false)] [(0, 17, (.t 95))] },
  { dst := some 97, op := .append 200 17 168 (.t 91) (.t 96) },
  { dst := some 10, op := .move (.t 97) }])))
 (.region [{ dst := some 98, op := .bin .add (.t 87) (.c (.v (.int .i64 1))) },
  { dst := some 87, op := .move (.t 98) }])))))))
 (.seq (.region [{ dst := some 99, op := .move (.t 6) },
  { dst := some 100, op := .nilChk (.t 99) },
  { dst := some 101, op := .faddr 0 (.t 100) },
  { dst := some 102, op := .load false 1 (.t 101) },
  { dst := some 103, op := .move (.t 10) },
  { dst := some 104, op := .build [.v (.slice none 0 0), .v (.slice none 0 0)] [(0, 1, (.t 102)), (1, 1, (.t 103))] },
  { dst := none, op := .store 2 (.t 4) (.t 104) },
  { dst := some 5, op := .move (.c (.v (.int .i64 0))) }])
 .ret))))))))))))⟩
/-- arras.shape.find -/
def F245 : AFun := ⟨true, 11, [.t 4, .t 5], (.seq (.region [{ dst := some 3, op := .box 41 2 (.t 1) },
  { dst := some 4, op := .move (.c (.v (.int .i64 0))) },
  { dst := some 5, op := .move (.c (.v (.bool false))) }])
 (.seq (.region [{ dst := some 6, op := .move (.t 0) },
  { dst := some 7, op := .load true 2 (.t 3) },
  { dst := some 8, op := .call 288 [(.t 6), (.t 7), (.c (.fn 289 []))] },
  { dst := some 9, op := .ext (.t 8) 0 },
  { dst := some 10, op := .ext (.t 8) 1 },
  { dst := some 4, op := .move (.t 9) },
  { dst := some 5, op := .move (.t 10) }])
 .ret))⟩
/-- slices.Insert[[]arras.api.Look,arras.api.Look] -/
def F246 : AFun := ⟨false, 95, [.t 6], (.seq (.region [{ dst := some 6, op := .move (.c (.v (.slice none 0 0))) }])
 (.seq (.region [{ dst := some 10, op := .move (.t 0) },
  { dst := some 11, op := .move (.t 1) },
  { dst := some 12, op := .slice 3 (.t 10) (some (.t 11)) none none }])
 (.seq (.region [{ dst := some 13, op := .move (.t 2) },
  { dst := some 14, op := .len (.t 13) },
  { dst := some 7, op := .move (.t 14) }])
 (.seq (.seq (.region [{ dst := some 15, op := .move (.t 7) },
  { dst := some 16, op := .bin .eql (.t 15) (.c (.v (.int .i64 0))) }])
 (.cond (.t 16) (.seq (.region [{ dst := some 17, op := .move (.t 0) },
  { dst := some 6, op := .move (.t 17) }])
 .ret) .skip))
 (.seq (.region [{ dst := some 18, op := .move (.t 0) },
  { dst := some 19, op := .len (.t 18) },
  { dst := some 8, op := .move (.t 19) }])
 (.seq (.seq (.region [{ dst := some 20, op := .move (.t 1) },
  { dst := some 21, op := .move (.t 8) },
  { dst := some 22, op := .bin .eql (.t 20) (.t 21) }])
 (.cond (.t 22) (.seq (.region [{ dst := some 23, op := .move (.t 0) },
  { dst := some 24, op := .move (.t 2) },
  { dst := some 25, op := .append 162 3 40 (.t 23) (.t 24) },
  { dst := some 6, op := .move (.t 25) }])
 .ret) .skip))
 (.seq (.seq (.region [{ dst := some 26, op := .move (.t 8) },
  { dst := some 27, op := .move (.t 7) },
  { dst := some 28, op := .bin .add (.t 26) (.t 27) },
  { dst := some 29, op := .move (.t 0) },
  { dst := some 30, op := .bad },
  { dst := some 31, op := .bin .gtr (.t 28) (.t 30) }])
 (.cond (.t 31) (.seq (.region [{ dst := some 32, op := .move (.t 0) },
  { dst := some 33, op := .move (.t 1) },
  { dst := some 34, op := .slice 3 (.t 32) none (some (.t 33)) none },
  { dst := some 35, op := .move (.t 8) },
  { dst := some 36, op := .move (.t 7) },
  { dst := some 37, op := .bin .add (.t 35) (.t 36) },
  { dst := some 38, op := .move (.t 1) },
  { dst := some 39, op := .bin .sub (.t 37) (.t 38) },
  { dst := some 40, op := .bad },
  { dst := some 9, op := .move (.t 40) }])
 (.seq (.region [{ dst := some 41, op := .move (.t 9) },
  { dst := some 42, op := .move (.t 1) },
  { dst := some 43, op := .slice 3 (.t 41) (some (.t 42)) none none },
  { dst := some 44, op := .move (.t 2) },
  { dst := some 45, op := .copy 3 (.t 43) (.t 44) }])
 (.seq (.dregion [{ dst := some 46, op := .move (.t 9) },
  { dst := some 47, op := .move (.t 1) },
  { dst := some 48, op := .move (.t 7) },
  { dst := some 49, op := .bin .add (.t 47) (.t 48) },
  { dst := some 50, op := .slice 3 (.t 46) (some (.t 49)) none none },
  { dst := some 51, op := .move (.t 0) },
  { dst := some 52, op := .move (.t 1) },
  { dst := some 53, op := .slice 3 (.t 51) (some (.t 52)) none none },
  { dst := some 54, op := .copy 3 (.t 50) (.t 53) }])
 (.seq (.region [{ dst := some 55, op := .move (.t 9) },
  { dst := some 6, op := .move (.t 55) }])
 .ret)))) .skip))
 (.seq (.region [{ dst := some 56, op := .move (.t 0) },
  { dst := some 57, op := .move (.t 8) },
  { dst := some 58, op := .move (.t 7) },
  { dst := some 59, op := .bin .add (.t 57) (.t 58) },
  { dst := some 60, op := .slice 3 (.t 56) none (some (.t 59)) none },
  { dst := some 0, op := .move (.t 60) }])
 (.seq (.seq (.region [{ dst := some 61, op := .move (.t 2) },
  { dst := some 62, op := .move (.t 0) },
  { dst := some 63, op := .move (.t 1) },
  { dst := some 64, op := .move (.t 7) },
  { dst := some 65, op := .bin .add (.t 63) (.t 64) },
  { dst := some 66, op := .slice 3 (.t 62) (some (.t 65)) none none },
  { dst := some 67, op := .call 290 [(.t 61), (.t 66)] },
  { dst := some 68, op := .un .not (.t 67) }])
 (.cond (.t 68) (.seq (.dregion [{ dst := some 69, op := .move (.t 0) },
  { dst := some 70, op := .move (.t 1) },
  { dst := some 71, op := .move (.t 7) },
  { dst := some 72, op := .bin .add (.t 70) (.t 71) },
  { dst := some 73, op := .slice 3 (.t 69) (some (.t 72)) none none },
  { dst := some 74, op := .move (.t 0) },
  { dst := some 75, op := .move (.t 1) },
  { dst := some 76, op := .slice 3 (.t 74) (some (.t 75)) none none },
  { dst := some 77, op := .copy 3 (.t 73) (.t 76) }])
 (.seq (.region [{ dst := some 78, op := .move (.t 0) },
  { dst := some 79, op := .move (.t 1) },
  { dst := some 80, op := .slice 3 (.t 78) (some (.t 79)) none none },
  { dst := some 81, op := .move (.t 2) },
  { dst := some 82, op := .copy 3 (.t 80) (.t 81) }])
 (.seq (.region [{ dst := some 83, op := .move (.t 0) },
  { dst := some 6, op := .move (.t 83) }])
 .ret))) .skip))
 (.seq (.region [{ dst := some 84, op := .move (.t 0) },
  { dst := some 85, op := .move (.t 8) },
  { dst := some 86, op := .slice 3 (.t 84) (some (.t 85)) none none },
  { dst := some 87, op := .move (.t 2) },
  { dst := some 88, op := .copy 3 (.t 86) (.t 87) }])
 (.seq (.region [{ dst := some 89, op := .move (.t 0) },
  { dst := some 90, op := .move (.t 1) },
  { dst := some 91, op := .slice 3 (.t 89) (some (.t 90)) none none },
  { dst := some 92, op := .move (.t 7) },
  { dst := some 93, op := .call 291 [(.t 91), (.t 92)] }])
 (.seq (.region [{ dst := some 94, op := .move (.t 0) },
  { dst := some 6, op := .move (.t 94) }])
 .ret))))))))))))⟩
/-- arras.reg.Put -/
def F247 : AFun := ⟨true, 39, [.t 4], (.seq (.region [{ dst := some 3, op := .box 224 4 (.t 1) },
  { dst := some 4, op := .move (.c (.v (.slice none 0 0))) }])
 (.seq (.region [{ dst := some 7, op := .move (.t 0) },
  { dst := some 8, op := .call 175 [(.t 7)] },
  { dst := some 0, op := .move (.t 8) }])
 (.seq (.region [{ dst := some 10, op := .move (.t 0) },
  { dst := some 11, op := .faddr 0 (.t 3) },
  { dst := some 12, op := .load false 1 (.t 11) },
  { dst := some 13, op := .call 292 [(.t 10), (.t 12)] },
  { dst := some 9, op := .move (.t 13) },
  { dst := some 14, op := .ext (.t 9) 0 },
  { dst := some 15, op := .ext (.t 9) 1 },
  { dst := some 5, op := .move (.t 14) },
  { dst := some 6, op := .move (.t 15) }])
 (.seq (.block 0 (.seq (.region [{ dst := some 17, op := .move (.t 6) },
  { dst := some 18, op := .un .not (.t 17) },
  { dst := some 16, op := .move (.t 18) }])
 (.cond (.t 16) (.seq (.region [{ dst := some 19, op := .move (.t 0) },
  { dst := some 20, op := .move (.t 5) },
  { dst := some 21, op := .load true 4 (.t 3) },
  { dst := some 22, op := .buildSlice 224 4 1 [.v (.int .i64 0), .v (.int .i64 0), .v (.int .i64 0), .v (.int .i64 0)] [(0, 4, (.t 21))] },
  { dst := some 23, op := .call 293 [(.t 19), (.t 20), (.t 22)] },
  { dst := some 4, op := .move (.t 23) }])
 .ret) (.seq (.dregion [{ dst := some 25, op := .move (.t 0) },
  { dst := some 26, op := .move (.t 5) },
  { dst := some 27, op := .iaddr 4 (.t 25) (.t 26) },
  { dst := some 28, op := .faddr 2 (.t 27) },
  { dst := some 29, op := .load true 2 (.t 28) },
  { dst := some 30, op := .faddr 2 (.t 3) },
  { dst := some 31, op := .load true 2 (.t 30) },
  { dst := some 32, op := .call 178 [(.t 29), (.t 31)] },
  { dst := some 33, op := .bin .lss (.t 32) (.c (.v (.int .i64 0))) },
  { dst := some 24, op := .move (.t 33) }])
 (.cond (.t 24) (.region [{ dst := some 34, op := .move (.t 0) },
  { dst := some 35, op := .move (.t 5) },
  { dst := some 36, op := .load true 4 (.t 3) },
  { dst := some 37, op := .iaddr 4 (.t 34) (.t 35) },
  { dst := none, op := .store 4 (.t 37) (.t 36) }]) .skip)))))
 (.seq (.region [{ dst := some 38, op := .move (.t 0) },
  { dst := some 4, op := .move (.t 38) }])
 .ret)))))⟩
/-- arras.code.TakeNum -/
def F251 : AFun := ⟨true, 53, [.t 2, .t 3, .t 4], (.seq (.region [{ dst := some 2, op := .move (.c (.v (.int .i64 0))) },
  { dst := some 3, op := .move (.c (.v (.int .i64 0))) },
  { dst := some 4, op := .move (.c (.v (.int .i64 0))) }])
 (.scope (.seq (.region [{ dst := some 5, op := .move (.c (.v (.int .i64 0))) }])
 (.seq (.label 0)
 (.seq (.seq (.region [{ dst := some 6, op := .move (.t 5) },
  { dst := some 7, op := .move (.t 0) },
  { dst := some 8, op := .len (.t 7) },
  { dst := some 9, op := .bin .eql (.t 6) (.t 8) }])
 (.cond (.t 9) (.seq (.region [{ dst := some 2, op := .move (.c (.v (.int .i64 0))) },
  { dst := some 3, op := .move (.c (.v (.int .i64 0))) },
  { dst := some 4, op := .move (.c (.v (.int .i64 7))) }])
 .ret) .skip))
 (.seq (.seq (.region [{ dst := some 10, op := .move (.t 0) },
  { dst := some 11, op := .move (.t 5) },
  { dst := some 12, op := .iaddr 1 (.t 10) (.t 11) },
  { dst := some 13, op := .load false 1 (.t 12) },
  { dst := some 14, op := .bin .geq (.t 13) (.c (.v (.int .u8 128))) },
  { dst := some 15, op := .move (.t 14) },
  { dst := some 16, op := .move (.t 5), guard := some (15, true) },
  { dst := some 17, op := .bin .eql (.t 16) (.c (.v (.int .i64 8))), guard := some (15, true) },
  { dst := some 18, op := .pick (.t 15) (.t 17) (.c (.v (.bool false))) }])
 (.cond (.t 18) (.goto 1) .skip))
 (.seq (.region [{ dst := some 19, op := .move (.t 2) },
  { dst := some 20, op := .move (.t 0) },
  { dst := some 21, op := .move (.t 5) },
  { dst := some 22, op := .iaddr 1 (.t 20) (.t 21) },
  { dst := some 23, op := .load false 1 (.t 22) },
  { dst := some 24, op := .bin .and (.t 23) (.c (.v (.int .u8 127))) },
  { dst := some 25, op := .conv .i64 (.t 24) },
  { dst := some 26, op := .move (.t 5) },
  { dst := some 27, op := .bin .mul (.c (.v (.int .i64 7))) (.t 26) },
  { dst := some 28, op := .bin .shl (.t 25) (.t 27) },
  { dst := some 29, op := .bin .or (.t 19) (.t 28) },
  { dst := some 2, op := .move (.t 29) }])
 (.seq (.seq (.region [{ dst := some 30, op := .move (.t 0) },
  { dst := some 31, op := .move (.t 5) },
  { dst := some 32, op := .iaddr 1 (.t 30) (.t 31) },
  { dst := some 33, op := .load false 1 (.t 32) },
  { dst := some 34, op := .bin .geq (.t 33) (.c (.v (.int .u8 128))) }])
 (.cond (.t 34) (.seq (.region [{ dst := some 35, op := .move (.t 5) },
  { dst := some 36, op := .bin .add (.t 35) (.c (.v (.int .i64 1))) },
  { dst := some 5, op := .move (.t 36) }])
 (.goto 0)) .skip))
 (.seq (.seq (.region [{ dst := some 37, op := .move (.t 0) },
  { dst := some 38, op := .move (.t 5) },
  { dst := some 39, op := .iaddr 1 (.t 37) (.t 38) },
  { dst := some 40, op := .load false 1 (.t 39) },
  { dst := some 41, op := .bin .eql (.t 40) (.c (.v (.int .u8 0))) },
  { dst := some 42, op := .move (.t 41) },
  { dst := some 43, op := .move (.t 5), guard := some (42, true) },
  { dst := some 44, op := .bin .gtr (.t 43) (.c (.v (.int .i64 0))), guard := some (42, true) },
  { dst := some 45, op := .pick (.t 42) (.t 44) (.c (.v (.bool false))) },
  { dst := some 46, op := .move (.t 45) },
  { dst := some 47, op := .move (.t 2), guard := some (46, false) },
  { dst := some 48, op := .bin .gtr (.t 47) (.c (.v (.int .i64 4611686018427387904))), guard := some (46, false) },
  { dst := some 49, op := .pick (.t 46) (.c (.v (.bool true))) (.t 48) }])
 (.cond (.t 49) (.goto 1) .skip))
 (.seq (.seq (.region [{ dst := some 50, op := .move (.t 2) },
  { dst := some 51, op := .move (.t 5) },
  { dst := some 52, op := .bin .add (.t 51) (.c (.v (.int .i64 1))) },
  { dst := some 2, op := .move (.t 50) },
  { dst := some 3, op := .move (.t 52) },
  { dst := some 4, op := .move (.c (.v (.int .i64 0))) }])
 .ret)
 (.seq (.label 1)
 (.seq (.region [{ dst := some 2, op := .move (.c (.v (.int .i64 0))) },
  { dst := some 3, op := .move (.c (.v (.int .i64 0))) },
  { dst := some 4, op := .move (.c (.v (.int .i64 1))) }])
 .ret)))))))))) (.seq (.region [{ dst := some 5, op := .move (.c (.v (.int .i64 0))) }])
 (.seq (.label 0)
 (.seq (.seq (.region [{ dst := some 6, op := .move (.t 5) },
  { dst := some 7, op := .move (.t 0) },
  { dst := some 8, op := .len (.t 7) },
  { dst := some 9, op := .bin .eql (.t 6) (.t 8) }])
 (.cond (.t 9) (.seq (.region [{ dst := some 2, op := .move (.c (.v (.int .i64 0))) },
  { dst := some 3, op := .move (.c (.v (.int .i64 0))) },
  { dst := some 4, op := .move (.c (.v (.int .i64 7))) }])
 .ret) .skip))
 (.seq (.seq (.region [{ dst := some 10, op := .move (.t 0) },
  { dst := some 11, op := .move (.t 5) },
  { dst := some 12, op := .iaddr 1 (.t 10) (.t 11) },
  { dst := some 13, op := .load false 1 (.t 12) },
  { dst := some 14, op := .bin .geq (.t 13) (.c (.v (.int .u8 128))) },
  { dst := some 15, op := .move (.t 14) },
  { dst := some 16, op := .move (.t 5), guard := some (15, true) },
  { dst := some 17, op := .bin .eql (.t 16) (.c (.v (.int .i64 8))), guard := some (15, true) },
  { dst := some 18, op := .pick (.t 15) (.t 17) (.c (.v (.bool false))) }])
 (.cond (.t 18) (.goto 1) .skip))
 (.seq (.region [{ dst := some 19, op := .move (.t 2) },
  { dst := some 20, op := .move (.t 0) },
  { dst := some 21, op := .move (.t 5) },
  { dst := some 22, op := .iaddr 1 (.t 20) (.t 21) },
  { dst := some 23, op := .load false 1 (.t 22) },
  { dst := some 24, op := .bin .and (.t 23) (.c (.v (.int .u8 127))) },
  { dst := some 25, op := .conv .i64 (.t 24) },
  { dst := some 26, op := .move (.t 5) },
  { dst := some 27, op := .bin .mul (.c (.v (.int .i64 7))) (.t 26) },
  { dst := some 28, op := .bin .shl (.t 25) (.t 27) },
  { dst := some 29, op := .bin .or (.t 19) (.t 28) },
  { dst := some 2, op := .move (.t 29) }])
 (.seq (.seq (.region [{ dst := some 30, op := .move (.t 0) },
  { dst := some 31, op := .move (.t 5) },
  { dst := some 32, op := .iaddr 1 (.t 30) (.t 31) },
  { dst := some 33, op := .load false 1 (.t 32) },
  { dst := some 34, op := .bin .geq (.t 33) (.c (.v (.int .u8 128))) }])
 (.cond (.t 34) (.seq (.region [{ dst := some 35, op := .move (.t 5) },
  { dst := some 36, op := .bin .add (.t 35) (.c (.v (.int .i64 1))) },
  { dst := some 5, op := .move (.t 36) }])
 (.goto 0)) .skip))
 (.seq (.seq (.region [{ dst := some 37, op := .move (.t 0) },
  { dst := some 38, op := .move (.t 5) },
  { dst := some 39, op := .iaddr 1 (.t 37) (.t 38) },
  { dst := some 40, op := .load false 1 (.t 39) },
  { dst := some 41, op := .bin .eql (.t 40) (.c (.v (.int .u8 0))) },
  { dst := some 42, op := .move (.t 41) },
  { dst := some 43, op := .move (.t 5), guard := some (42, true) },
  { dst := some 44, op := .bin .gtr (.t 43) (.c (.v (.int .i64 0))), guard := some (42, true) },
  { dst := some 45, op := .pick (.t 42) (.t 44) (.c (.v (.bool false))) },
  { dst := some 46, op := .move (.t 45) },
  { dst := some 47, op := .move (.t 2), guard := some (46, false) },
  { dst := some 48, op := .bin .gtr (.t 47) (.c (.v (.int .i64 4611686018427387904))), guard := some (46, false) },
  { dst := some 49, op := .pick (.t 46) (.c (.v (.bool true))) (.t 48) }])
 (.cond (.t 49) (.goto 1) .skip))
 (.seq (.seq (.region [{ dst := some 50, op := .move (.t 2) },
  { dst := some 51, op := .move (.t 5) },
  { dst := some 52, op := .bin .add (.t 51) (.c (.v (.int .i64 1))) },
  { dst := some 2, op := .move (.t 50) },
  { dst := some 3, op := .move (.t 52) },
  { dst := some 4, op := .move (.c (.v (.int .i64 0))) }])
 .ret)
 (.seq (.label 1)
 (.seq (.region [{ dst := some 2, op := .move (.c (.v (.int .i64 0))) },
  { dst := some 3, op := .move (.c (.v (.int .i64 0))) },
  { dst := some 4, op := .move (.c (.v (.int .i64 1))) }])
 .ret))))))))))))⟩
/-- arras.code.TakeNums -/
def F252 : AFun := ⟨true, 44, [.t 2, .t 3, .t 4], (.seq (.region [{ dst := some 2, op := .move (.c (.v (.slice none 0 0))) },
  { dst := some 3, op := .move (.c (.v (.int .i64 0))) },
  { dst := some 4, op := .move (.c (.v (.int .i64 0))) }])
 (.seq (.region [{ dst := some 10, op := .move (.t 0) },
  { dst := some 11, op := .call 251 [(.t 10)] },
  { dst := some 9, op := .move (.t 11) },
  { dst := some 12, op := .ext (.t 9) 0 },
  { dst := some 13, op := .ext (.t 9) 1 },
  { dst := some 14, op := .ext (.t 9) 2 },
  { dst := some 5, op := .move (.t 12) },
  { dst := some 3, op := .move (.t 13) },
  { dst := some 4, op := .move (.t 14) }])
 (.seq (.seq (.region [{ dst := some 15, op := .move (.t 4) },
  { dst := some 16, op := .bin .neq (.t 15) (.c (.v (.int .i64 0))) }])
 (.cond (.t 16) (.seq (.region [{ dst := some 17, op := .move (.t 4) },
  { dst := some 2, op := .move (.c (.v (.slice none 0 0))) },
  { dst := some 3, op := .move (.c (.v (.int .i64 0))) },
  { dst := some 4, op := .move (.t 17) }])
 .ret) .skip))
 (.seq (.seq (.region [{ dst := some 18, op := .move (.t 5) },
  { dst := some 19, op := .bin .gtr (.t 18) (.c (.v (.int .i64 1024))) }])
 (.cond (.t 19) (.seq (.region [{ dst := some 2, op := .move (.c (.v (.slice none 0 0))) },
  { dst := some 3, op := .move (.c (.v (.int .i64 0))) },
  { dst := some 4, op := .move (.c (.v (.int .i64 1))) }])
 .ret) .skip))
 (.seq (.seq (.region [{ dst := some 20, op := .move (.t 5) },
  { dst := some 21, op := .move (.c (.v (.int .i64 0))) }])
 (.block 0 (.loop (.seq (.region [{ dst := some 22, op := .bin .lss (.t 21) (.t 20) }])
 (.seq (.cond (.t 22) .skip (.exit 0))
 (.seq (.block 1 (.seq (.region [{ dst := some 24, op := .move (.t 0) },
  { dst := some 25, op := .move (.t 3) },
  { dst := some 26, op := .slice 1 (.t 24) (some (.t 25)) none none },
  { dst := some 27, op := .call 251 [(.t 26)] },
  { dst := some 23, op := .move (.t 27) },
  { dst := some 28, op := .ext (.t 23) 0 },
  { dst := some 29, op := .ext (.t 23) 1 },
  { dst := some 30, op := .ext (.t 23) 2 },
  { dst := some 6, op := .move (.t 28) },
  { dst := some 7, op := .move (.t 29) },
  { dst := some 8, op := .move (.t 30) }])
 (.seq (.seq (.region [{ dst := some 31, op := .move (.t 8) },
  { dst := some 32, op := .bin .neq (.t 31) (.c (.v (.int .i64 0))) }])
 (.cond (.t 32) (.seq (.region [{ dst := some 33, op := .move (.t 8) },
  { dst := some 2, op := .move (.c (.v (.slice none 0 0))) },
  { dst := some 3, op := .move (.c (.v (.int .i64 0))) },
  { dst := some 4, op := .move (.t 33) }])
 .ret) .skip))
 (.region [{ dst := some 34, op := .move (.t 2) },
  { dst := some 35, op := .move (.t 6) },
  { dst := some 36, op := .buildSlice 3 1 1 [.v (.int .i64 0)] [(0, 1, (.t 35))] },
  { dst := some 37, op := .append 3 1 8 (.t 34) (.t 36) },
  { dst := some 38, op := .move (.t 3) },
  { dst := some 39, op := .move (.t 7) },
  { dst := some 40, op := .bin .add (.t 38) (.t 39) },
  { dst := some 2, op := .move (.t 37) },
  { dst := some 3, op := .move (.t 40) }]))))
 (.region [{ dst := some 41, op := .bin .add (.t 21) (.c (.v (.int .i64 1))) },
  { dst := some 21, op := .move (.t 41) }])))))))
 (.seq (.region [{ dst := some 42, op := .move (.t 2) },
  { dst := some 43, op := .move (.t 3) },
  { dst := some 2, op := .move (.t 42) },
  { dst := some 3, op := .move (.t 43) },
  { dst := some 4, op := .move (.c (.v (.int .i64 0))) }])
 .ret))))))⟩
/-- slices.BinarySearchFunc[[]arras.api.Op,arras.api.Op,arras.api.Op] -/
def F253 : AFun := ⟨true, 49, [.t 6, .t 7], (.seq (.region [{ dst := some 4, op := .box 75 12 (.t 1) },
  { dst := some 6, op := .move (.c (.v (.int .i64 0))) },
  { dst := some 7, op := .move (.c (.v (.bool false))) }])
 (.seq (.region [{ dst := some 12, op := .move (.t 0) },
  { dst := some 13, op := .len (.t 12) },
  { dst := some 8, op := .move (.t 13) }])
 (.seq (.region [{ dst := some 14, op := .move (.t 8) },
  { dst := some 9, op := .move (.c (.v (.int .i64 0))) },
  { dst := some 10, op := .move (.t 14) }])
 (.seq (.block 0 (.loop (.seq (.seq (.region [{ dst := some 15, op := .move (.t 9) },
  { dst := some 16, op := .move (.t 10) },
  { dst := some 17, op := .bin .lss (.t 15) (.t 16) }])
 (.cond (.t 17) .skip (.exit 0)))
 (.block 1 (.seq (.region [{ dst := some 18, op := .move (.t 9) },
  { dst := some 19, op := .move (.t 10) },
  { dst := some 20, op := .bin .add (.t 18) (.t 19) },
  { dst := some 21, op := .conv .u64 (.t 20) },
  { dst := some 22, op := .bin .shr (.t 21) (.c (.v (.int .u64 1))) },
  { dst := some 23, op := .conv .i64 (.t 22) },
  { dst := some 11, op := .move (.t 23) }])
 (.seq (.dregion [{ dst := some 24, op := .move (.t 2) },
  { dst := some 25, op := .move (.t 0) },
  { dst := some 26, op := .move (.t 11) },
  { dst := some 27, op := .iaddr 12 (.t 25) (.t 26) },
  { dst := some 28, op := .load true 12 (.t 27) },
  { dst := some 29, op := .load true 12 (.t 4) },
  { dst := some 30, op := .callv (.t 24) [(.t 28), (.t 29)] },
  { dst := some 31, op := .bin .lss (.t 30) (.c (.v (.int .i64 0))) }])
 (.cond (.t 31) (.region [{ dst := some 32, op := .move (.t 11) },
  { dst := some 33, op := .bin .add (.t 32) (.c (.v (.int .i64 1))) },
  { dst := some 9, op := .move (.t 33) }]) (.region [{ dst := some 34, op := .move (.t 11) },
  { dst := some 10, op := .move (.t 34) }]))))))))
 (.seq (.dregion [{ dst := some 35, op := .move (.t 9) },
  { dst := some 36, op := .move (.t 9) },
  { dst := some 37, op := .move (.t 8) },
  { dst := some 38, op := .bin .lss (.t 36) (.t 37) },
  { dst := some 39, op := .move (.t 38) },
  { dst := some 40, op := .move (.t 2), guard := some (39, true) },
  { dst := some 41, op := .move (.t 0), guard := some (39, true) },
  { dst := some 42, op := .move (.t 9), guard := some (39, true) },
  { dst := some 43, op := .iaddr 12 (.t 41) (.t 42), guard := some (39, true) },
  { dst := some 44, op := .load true 12 (.t 43), guard := some (39, true) },
  { dst := some 45, op := .load true 12 (.t 4), guard := some (39, true) },
  { dst := some 46, op := .callv (.t 40) [(.t 44), (.t 45)], guard := some (39, true) },
  { dst := some 47, op := .bin .eql (.t 46) (.c (.v (.int .i64 0))), guard := some (39, true) },
  { dst := some 48, op := .pick (.t 39) (.t 47) (.c (.v (.bool false))) },
  { dst := some 6, op := .move (.t 35) },
  { dst := some 7, op := .move (.t 48) }])
 .ret)))))⟩
/-- arras.hold.keep$1 -/
def F254 : AFun := ⟨true, 13, [.t 4], (.seq (.region [{ dst := some 2, op := .box 75 12 (.t 0) },
  { dst := some 3, op := .box 75 12 (.t 1) },
  { dst := some 4, op := .move (.c (.v (.int .i64 0))) }])
 (.seq (.block 0 (.seq (.region [{ dst := some 6, op := .load true 12 (.t 2) },
  { dst := some 7, op := .load true 12 (.t 3) },
  { dst := some 8, op := .call 130 [(.t 6), (.t 7)] },
  { dst := some 5, op := .move (.t 8) }])
 (.cond (.t 5) (.seq (.region [{ dst := some 4, op := .move (.c (.v (.int .i64 (-1)))) }])
 .ret) (.seq (.region [{ dst := some 10, op := .load true 12 (.t 3) },
  { dst := some 11, op := .load true 12 (.t 2) },
  { dst := some 12, op := .call 130 [(.t 10), (.t 11)] },
  { dst := some 9, op := .move (.t 12) }])
 (.cond (.t 9) (.seq (.region [{ dst := some 4, op := .move (.c (.v (.int .i64 1))) }])
 .ret) .skip)))))
 (.seq (.region [{ dst := some 4, op := .move (.c (.v (.int .i64 0))) }])
 .ret)))⟩
/-- slices.Insert[[]arras.api.Op,arras.api.Op] -/
def F255 : AFun := ⟨false, 95, [.t 6], (.seq (.region [{ dst := some 6, op := .move (.c (.v (.slice none 0 0))) }])
 (.seq (.region [{ dst := some 10, op := .move (.t 0) },
  { dst := some 11, op := .move (.t 1) },
  { dst := some 12, op := .slice 12 (.t 10) (some (.t 11)) none none }])
 (.seq (.region [{ dst := some 13, op := .move (.t 2) },
  { dst := some 14, op := .len (.t 13) },
  { dst := some 7, op := .move (.t 14) }])
 (.seq (.seq (.region [{ dst := some 15, op := .move (.t 7) },
  { dst := some 16, op := .bin .eql (.t 15) (.c (.v (.int .i64 0))) }])
 (.cond (.t 16) (.seq (.region [{ dst := some 17, op := .move (.t 0) },
  { dst := some 6, op := .move (.t 17) }])
 .ret) .skip))
 (.seq (.region [{ dst := some 18, op := .move (.t 0) },
  { dst := some 19, op := .len (.t 18) },
  { dst := some 8, op := .move (.t 19) }])
 (.seq (.seq (.region [{ dst := some 20, op := .move (.t 1) },
  { dst := some 21, op := .move (.t 8) },
  { dst := some 22, op := .bin .eql (.t 20) (.t 21) }])
 (.cond (.t 22) (.seq (.region [{ dst := some 23, op := .move (.t 0) },
  { dst := some 24, op := .move (.t 2) },
  { dst := some 25, op := .append 75 12 120 (.t 23) (.t 24) },
  { dst := some 6, op := .move (.t 25) }])
 .ret) .skip))
 (.seq (.seq (.region [{ dst := some 26, op := .move (.t 8) },
  { dst := some 27, op := .move (.t 7) },
  { dst := some 28, op := .bin .add (.t 26) (.t 27) },
  { dst := some 29, op := .move (.t 0) },
  { dst := some 30, op := .bad },
  { dst := some 31, op := .bin .gtr (.t 28) (.t 30) }])
 (.cond (.t 31) (.seq (.region [{ dst := some 32, op := .move (.t 0) },
  { dst := some 33, op := .move (.t 1) },
  { dst := some 34, op := .slice 12 (.t 32) none (some (.t 33)) none },
  { dst := some 35, op := .move (.t 8) },
  { dst := some 36, op := .move (.t 7) },
  { dst := some 37, op := .bin .add (.t 35) (.t 36) },
  { dst := some 38, op := .move (.t 1) },
  { dst := some 39, op := .bin .sub (.t 37) (.t 38) },
  { dst := some 40, op := .bad },
  { dst := some 9, op := .move (.t 40) }])
 (.seq (.region [{ dst := some 41, op := .move (.t 9) },
  { dst := some 42, op := .move (.t 1) },
  { dst := some 43, op := .slice 12 (.t 41) (some (.t 42)) none none },
  { dst := some 44, op := .move (.t 2) },
  { dst := some 45, op := .copy 12 (.t 43) (.t 44) }])
 (.seq (.dregion [{ dst := some 46, op := .move (.t 9) },
  { dst := some 47, op := .move (.t 1) },
  { dst := some 48, op := .move (.t 7) },
  { dst := some 49, op := .bin .add (.t 47) (.t 48) },
  { dst := some 50, op := .slice 12 (.t 46) (some (.t 49)) none none },
  { dst := some 51, op := .move (.t 0) },
  { dst := some 52, op := .move (.t 1) },
  { dst := some 53, op := .slice 12 (.t 51) (some (.t 52)) none none },
  { dst := some 54, op := .copy 12 (.t 50) (.t 53) }])
 (.seq (.region [{ dst := some 55, op := .move (.t 9) },
  { dst := some 6, op := .move (.t 55) }])
 .ret)))) .skip))
 (.seq (.region [{ dst := some 56, op := .move (.t 0) },
  { dst := some 57, op := .move (.t 8) },
  { dst := some 58, op := .move (.t 7) },
  { dst := some 59, op := .bin .add (.t 57) (.t 58) },
  { dst := some 60, op := .slice 12 (.t 56) none (some (.t 59)) none },
  { dst := some 0, op := .move (.t 60) }])
 (.seq (.seq (.region [{ dst := some 61, op := .move (.t 2) },
  { dst := some 62, op := .move (.t 0) },
  { dst := some 63, op := .move (.t 1) },
  { dst := some 64, op := .move (.t 7) },
  { dst := some 65, op := .bin .add (.t 63) (.t 64) },
  { dst := some 66, op := .slice 12 (.t 62) (some (.t 65)) none none },
  { dst := some 67, op := .call 297 [(.t 61), (.t 66)] },
  { dst := some 68, op := .un .not (.t 67) }])
 (.cond (.t 68) (.seq (.dregion [{ dst := some 69, op := .move (.t 0) },
  { dst := some 70, op := .move (.t 1) },
  { dst := some 71, op := .move (.t 7) },
  { dst := some 72, op := .bin .add (.t 70) (.t 71) },
  { dst := some 73, op := .slice 12 (.t 69) (some (.t 72)) none none },
  { dst := some 74, op := .move (.t 0) },
  { dst := some 75, op := .move (.t 1) },
  { dst := some 76, op := .slice 12 (.t 74) (some (.t 75)) none none },
  { dst := some 77, op := .copy 12 (.t 73) (.t 76) }])
 (.seq (.region [{ dst := some 78, op := .move (.t 0) },
  { dst := some 79, op := .move (.t 1) },
  { dst := some 80, op := .slice 12 (.t 78) (some (.t 79)) none none },
  { dst := some 81, op := .move (.t 2) },
  { dst := some 82, op := .copy 12 (.t 80) (.t 81) }])
 (.seq (.region [{ dst := some 83, op := .move (.t 0) },
  { dst := some 6, op := .move (.t 83) }])
 .ret))) .skip))
 (.seq (.region [{ dst := some 84, op := .move (.t 0) },
  { dst := some 85, op := .move (.t 8) },
  { dst := some 86, op := .slice 12 (.t 84) (some (.t 85)) none none },
  { dst := some 87, op := .move (.t 2) },
  { dst := some 88, op := .copy 12 (.t 86) (.t 87) }])
 (.seq (.region [{ dst := some 89, op := .move (.t 0) },
  { dst := some 90, op := .move (.t 1) },
  { dst := some 91, op := .slice 12 (.t 89) (some (.t 90)) none none },
  { dst := some 92, op := .move (.t 7) },
  { dst := some 93, op := .call 298 [(.t 91), (.t 92)] }])
 (.seq (.region [{ dst := some 94, op := .move (.t 0) },
  { dst := some 6, op := .move (.t 94) }])
 .ret))))))))))))⟩
/-- (*arras.op.reader).place -/
def F262 : AFun := ⟨false, 25, [.cell 2 true 2], (.seq (.region [{ dst := some 2, op := .alloc 41 [.v (.int .i64 0), .v (.int .i64 0)] }])
 (.seq (.dregion [{ dst := some 7, op := .move (.t 0) },
  { dst := some 8, op := .nilChk (.t 7) },
  { dst := some 9, op := .faddr 0 (.t 8) },
  { dst := some 10, op := .load false 1 (.t 9) },
  { dst := some 11, op := .move (.t 0) },
  { dst := some 12, op := .nilChk (.t 11) },
  { dst := some 13, op := .faddr 1 (.t 12) },
  { dst := some 14, op := .load false 1 (.t 13) },
  { dst := some 15, op := .slice 1 (.t 10) (some (.t 14)) none none },
  { dst := some 16, op := .call 301 [(.t 15)] },
  { dst := some 6, op := .move (.t 16) },
  { dst := some 17, op := .ext (.t 6) 0 },
  { dst := some 18, op := .ext (.t 6) 1 },
  { dst := some 19, op := .ext (.t 6) 2 },
  { dst := some 3, op := .alloc 41 [.v (.int .i64 0), .v (.int .i64 0)], un := [3, 7, 9] },
  { dst := none, op := .store 2 (.t 3) (.t 17) },
  { dst := some 4, op := .move (.t 18) },
  { dst := some 5, op := .move (.t 19) }])
 (.seq (.region [{ dst := some 20, op := .move (.t 0) },
  { dst := some 21, op := .move (.t 4) },
  { dst := some 22, op := .move (.t 5) },
  { dst := some 23, op := .call 263 [(.t 20), (.t 21), (.t 22)] }])
 (.seq (.region [{ dst := some 24, op := .load true 2 (.t 3) },
  { dst := none, op := .store 2 (.t 2) (.t 24) }])
 .ret))))⟩
/-- (*arras.op.reader).part -/
def F263 : AFun := ⟨false, 24, [], (.seq (.region [{ dst := some 6, op := .move (.t 0) },
  { dst := some 7, op := .nilChk (.t 6) },
  { dst := some 8, op := .faddr 2 (.t 7) },
  { dst := some 9, op := .load false 1 (.t 8) },
  { dst := some 10, op := .bin .eql (.t 9) (.c (.v (.int .i64 0))) }])
 (.cond (.t 10) (.region [{ dst := some 11, op := .move (.t 0) },
  { dst := some 12, op := .move (.t 0) },
  { dst := some 13, op := .move (.t 0) },
  { dst := some 14, op := .nilChk (.t 13) },
  { dst := some 15, op := .faddr 1 (.t 14) },
  { dst := some 16, op := .load false 1 (.t 15) },
  { dst := some 17, op := .move (.t 1) },
  { dst := some 18, op := .bin .add (.t 16) (.t 17) },
  { dst := some 19, op := .move (.t 2) },
  { dst := some 20, op := .nilChk (.t 11) },
  { dst := some 21, op := .faddr 1 (.t 20) },
  { dst := none, op := .store 1 (.t 21) (.t 18) },
  { dst := some 22, op := .nilChk (.t 12) },
  { dst := some 23, op := .faddr 2 (.t 22) },
  { dst := none, op := .store 1 (.t 23) (.t 19) }]) .skip))⟩
/-- (*arras.op.reader).number -/
def F264 : AFun := ⟨false, 25, [.t 2], (.seq (.region [{ dst := some 2, op := .move (.c (.v (.int .i64 0))) }])
 (.seq (.dregion [{ dst := some 7, op := .move (.t 0) },
  { dst := some 8, op := .nilChk (.t 7) },
  { dst := some 9, op := .faddr 0 (.t 8) },
  { dst := some 10, op := .load false 1 (.t 9) },
  { dst := some 11, op := .move (.t 0) },
  { dst := some 12, op := .nilChk (.t 11) },
  { dst := some 13, op := .faddr 1 (.t 12) },
  { dst := some 14, op := .load false 1 (.t 13) },
  { dst := some 15, op := .slice 1 (.t 10) (some (.t 14)) none none },
  { dst := some 16, op := .call 251 [(.t 15)] },
  { dst := some 6, op := .move (.t 16) },
  { dst := some 17, op := .ext (.t 6) 0 },
  { dst := some 18, op := .ext (.t 6) 1 },
  { dst := some 19, op := .ext (.t 6) 2 },
  { dst := some 3, op := .move (.t 17) },
  { dst := some 4, op := .move (.t 18) },
  { dst := some 5, op := .move (.t 19) }])
 (.seq (.region [{ dst := some 20, op := .move (.t 0) },
  { dst := some 21, op := .move (.t 4) },
  { dst := some 22, op := .move (.t 5) },
  { dst := some 23, op := .call 263 [(.t 20), (.t 21), (.t 22)] }])
 (.seq (.region [{ dst := some 24, op := .move (.t 3) },
  { dst := some 2, op := .move (.t 24) }])
 .ret))))⟩
/-- arras.code.TakeText -/
def F265 : AFun := ⟨true, 36, [.t 2, .t 3, .t 4], (.seq (.region [{ dst := some 2, op := .move (.c (.v (.string ⟨#[]⟩))) },
  { dst := some 3, op := .move (.c (.v (.int .i64 0))) },
  { dst := some 4, op := .move (.c (.v (.int .i64 0))) }])
 (.seq (.region [{ dst := some 7, op := .move (.t 0) },
  { dst := some 8, op := .call 251 [(.t 7)] },
  { dst := some 6, op := .move (.t 8) },
  { dst := some 9, op := .ext (.t 6) 0 },
  { dst := some 10, op := .ext (.t 6) 1 },
  { dst := some 11, op := .ext (.t 6) 2 },
  { dst := some 5, op := .move (.t 9) },
  { dst := some 3, op := .move (.t 10) },
  { dst := some 4, op := .move (.t 11) }])
 (.seq (.block 0 (.seq (.region [{ dst := some 13, op := .move (.t 4) },
  { dst := some 14, op := .bin .neq (.t 13) (.c (.v (.int .i64 0))) },
  { dst := some 12, op := .move (.t 14) }])
 (.cond (.t 12) (.seq (.region [{ dst := some 15, op := .move (.t 4) },
  { dst := some 2, op := .move (.c (.v (.string ⟨#[]⟩))) },
  { dst := some 3, op := .move (.c (.v (.int .i64 0))) },
  { dst := some 4, op := .move (.t 15) }])
 .ret) (.seq (.region [{ dst := some 17, op := .move (.t 5) },
  { dst := some 18, op := .bin .gtr (.t 17) (.c (.v (.int .i64 65536))) },
  { dst := some 16, op := .move (.t 18) }])
 (.cond (.t 16) (.seq (.region [{ dst := some 2, op := .move (.c (.v (.string ⟨#[]⟩))) },
  { dst := some 3, op := .move (.c (.v (.int .i64 0))) },
  { dst := some 4, op := .move (.c (.v (.int .i64 1))) }])
 .ret) (.seq (.region [{ dst := some 20, op := .move (.t 5) },
  { dst := some 21, op := .move (.t 0) },
  { dst := some 22, op := .len (.t 21) },
  { dst := some 23, op := .move (.t 3) },
  { dst := some 24, op := .bin .sub (.t 22) (.t 23) },
  { dst := some 25, op := .bin .gtr (.t 20) (.t 24) },
  { dst := some 19, op := .move (.t 25) }])
 (.cond (.t 19) (.seq (.region [{ dst := some 2, op := .move (.c (.v (.string ⟨#[]⟩))) },
  { dst := some 3, op := .move (.c (.v (.int .i64 0))) },
  { dst := some 4, op := .move (.c (.v (.int .i64 7))) }])
 .ret) .skip)))))))
 (.seq (.region [{ dst := some 26, op := .move (.t 0) },
  { dst := some 27, op := .move (.t 3) },
  { dst := some 28, op := .move (.t 3) },
  { dst := some 29, op := .move (.t 5) },
  { dst := some 30, op := .bin .add (.t 28) (.t 29) },
  { dst := some 31, op := .slice 1 (.t 26) (some (.t 27)) (some (.t 30)) none },
  { dst := some 32, op := .b2s (.t 31) },
  { dst := some 33, op := .move (.t 3) },
  { dst := some 34, op := .move (.t 5) },
  { dst := some 35, op := .bin .add (.t 33) (.t 34) },
  { dst := some 2, op := .move (.t 32) },
  { dst := some 3, op := .move (.t 35) },
  { dst := some 4, op := .move (.c (.v (.int .i64 0))) }])
 .ret))))⟩
/-- cmp.isNaN[int] -/
def F269 : AFun := ⟨true, 6, [.t 2], (.seq (.region [{ dst := some 2, op := .move (.c (.v (.bool false))) }])
 (.seq (.region [{ dst := some 3, op := .move (.t 0) },
  { dst := some 4, op := .move (.t 0) },
  { dst := some 5, op := .bin .neq (.t 3) (.t 4) },
  { dst := some 2, op := .move (.t 5) }])
 .ret))⟩
/-- slices.BinarySearchFunc[[]arras.api.Node,arras.api.Node,arras.api.Stamp] -/
def F270 : AFun := ⟨true, 49, [.t 6, .t 7], (.seq (.region [{ dst := some 4, op := .box 41 2 (.t 1) },
  { dst := some 6, op := .move (.c (.v (.int .i64 0))) },
  { dst := some 7, op := .move (.c (.v (.bool false))) }])
 (.seq (.region [{ dst := some 12, op := .move (.t 0) },
  { dst := some 13, op := .len (.t 12) },
  { dst := some 8, op := .move (.t 13) }])
 (.seq (.region [{ dst := some 14, op := .move (.t 8) },
  { dst := some 9, op := .move (.c (.v (.int .i64 0))) },
  { dst := some 10, op := .move (.t 14) }])
 (.seq (.block 0 (.loop (.seq (.seq (.region [{ dst := some 15, op := .move (.t 9) },
  { dst := some 16, op := .move (.t 10) },
  { dst := some 17, op := .bin .lss (.t 15) (.t 16) }])
 (.cond (.t 17) .skip (.exit 0)))
 (.block 1 (.seq (.region [{ dst := some 18, op := .move (.t 9) },
  { dst := some 19, op := .move (.t 10) },
  { dst := some 20, op := .bin .add (.t 18) (.t 19) },
  { dst := some 21, op := .conv .u64 (.t 20) },
  { dst := some 22, op := .bin .shr (.t 21) (.c (.v (.int .u64 1))) },
  { dst := some 23, op := .conv .i64 (.t 22) },
  { dst := some 11, op := .move (.t 23) }])
 (.seq (.dregion [{ dst := some 24, op := .move (.t 2) },
  { dst := some 25, op := .move (.t 0) },
  { dst := some 26, op := .move (.t 11) },
  { dst := some 27, op := .iaddr 5 (.t 25) (.t 26) },
  { dst := some 28, op := .load true 5 (.t 27) },
  { dst := some 29, op := .load true 2 (.t 4) },
  { dst := some 30, op := .callv (.t 24) [(.t 28), (.t 29)] },
  { dst := some 31, op := .bin .lss (.t 30) (.c (.v (.int .i64 0))) }])
 (.cond (.t 31) (.region [{ dst := some 32, op := .move (.t 11) },
  { dst := some 33, op := .bin .add (.t 32) (.c (.v (.int .i64 1))) },
  { dst := some 9, op := .move (.t 33) }]) (.region [{ dst := some 34, op := .move (.t 11) },
  { dst := some 10, op := .move (.t 34) }]))))))))
 (.seq (.dregion [{ dst := some 35, op := .move (.t 9) },
  { dst := some 36, op := .move (.t 9) },
  { dst := some 37, op := .move (.t 8) },
  { dst := some 38, op := .bin .lss (.t 36) (.t 37) },
  { dst := some 39, op := .move (.t 38) },
  { dst := some 40, op := .move (.t 2), guard := some (39, true) },
  { dst := some 41, op := .move (.t 0), guard := some (39, true) },
  { dst := some 42, op := .move (.t 9), guard := some (39, true) },
  { dst := some 43, op := .iaddr 5 (.t 41) (.t 42), guard := some (39, true) },
  { dst := some 44, op := .load true 5 (.t 43), guard := some (39, true) },
  { dst := some 45, op := .load true 2 (.t 4), guard := some (39, true) },
  { dst := some 46, op := .callv (.t 40) [(.t 44), (.t 45)], guard := some (39, true) },
  { dst := some 47, op := .bin .eql (.t 46) (.c (.v (.int .i64 0))), guard := some (39, true) },
  { dst := some 48, op := .pick (.t 39) (.t 47) (.c (.v (.bool false))) },
  { dst := some 6, op := .move (.t 35) },
  { dst := some 7, op := .move (.t 48) }])
 .ret)))))⟩
/-- arras.tree.find$1 -/
def F271 : AFun := ⟨true, 9, [.t 4], (.seq (.region [{ dst := some 2, op := .box 197 5 (.t 0) },
  { dst := some 3, op := .box 41 2 (.t 1) },
  { dst := some 4, op := .move (.c (.v (.int .i64 0))) }])
 (.seq (.region [{ dst := some 5, op := .faddr 0 (.t 2) },
  { dst := some 6, op := .load true 2 (.t 5) },
  { dst := some 7, op := .load true 2 (.t 3) },
  { dst := some 8, op := .call 178 [(.t 6), (.t 7)] },
  { dst := some 4, op := .move (.t 8) }])
 .ret))⟩
/-- slices.SortFunc[[]arras.api.Node,arras.api.Node] -/
def F272 : AFun := ⟨false, 14, [], (.seq (.region [{ dst := some 5, op := .move (.t 0) },
  { dst := some 6, op := .len (.t 5) },
  { dst := some 4, op := .move (.t 6) }])
 (.region [{ dst := some 7, op := .move (.t 0) },
  { dst := some 8, op := .move (.t 4) },
  { dst := some 9, op := .move (.t 4) },
  { dst := some 10, op := .conv .u64 (.t 9) },
  { dst := some 11, op := .call 304 [(.t 10)] },
  { dst := some 12, op := .move (.t 1) },
  { dst := some 13, op := .call 303 [(.t 7), (.c (.v (.int .i64 0))), (.t 8), (.t 11), (.t 12)] }]))⟩
/-- arras.tree.Children$1 -/
def F273 : AFun := ⟨true, 17, [.t 4], (.seq (.region [{ dst := some 2, op := .box 197 5 (.t 0) },
  { dst := some 3, op := .box 197 5 (.t 1) },
  { dst := some 4, op := .move (.c (.v (.int .i64 0))) }])
 (.seq (.dregion [{ dst := some 5, op := .faddr 4 (.t 2) },
  { dst := some 6, op := .load false 1 (.t 5) },
  { dst := some 7, op := .faddr 4 (.t 3) },
  { dst := some 8, op := .load false 1 (.t 7) },
  { dst := some 9, op := .call 274 [(.t 6), (.t 8)] },
  { dst := some 10, op := .faddr 0 (.t 2) },
  { dst := some 11, op := .load true 2 (.t 10) },
  { dst := some 12, op := .faddr 0 (.t 3) },
  { dst := some 13, op := .load true 2 (.t 12) },
  { dst := some 14, op := .call 178 [(.t 11), (.t 13)] },
  { dst := some 15, op := .buildSlice 3 1 2 [.v (.int .i64 0)] [(0, 1, (.t 9)), (1, 1, (.t 14))] },
  { dst := some 16, op := .call 226 [(.t 15)] },
  { dst := some 4, op := .move (.t 16) }])
 .ret))⟩
/-- strings.Compare -/
def F274 : AFun := ⟨true, 8, [.t 4], (.seq (.region [{ dst := some 4, op := .move (.c (.v (.int .i64 0))) }])
 (.seq (.region [{ dst := some 5, op := .move (.t 0) },
  { dst := some 6, op := .move (.t 1) },
  { dst := some 7, op := .call 305 [(.t 5), (.t 6)] },
  { dst := some 4, op := .move (.t 7) }])
 .ret))⟩
/-- arras.key.at -/
def F275 : AFun := ⟨true, 16, [.t 6], (.seq (.region [{ dst := some 6, op := .move (.c (.v (.int .i64 0))) }])
 (.seq (.seq (.region [{ dst := some 7, op := .move (.t 1) },
  { dst := some 8, op := .move (.t 0) },
  { dst := some 9, op := .lenS (.t 8) },
  { dst := some 10, op := .bin .lss (.t 7) (.t 9) }])
 (.cond (.t 10) (.seq (.region [{ dst := some 11, op := .move (.t 0) },
  { dst := some 12, op := .move (.t 1) },
  { dst := some 13, op := .index (.t 11) (.t 12) },
  { dst := some 14, op := .conv .i64 (.t 13) },
  { dst := some 6, op := .move (.t 14) }])
 .ret) .skip))
 (.seq (.region [{ dst := some 15, op := .move (.t 2) },
  { dst := some 6, op := .move (.t 15) }])
 .ret)))⟩
/-- (*arras.tree.work).circle -/
def F276 : AFun := ⟨true, 30, [.t 6], (.seq (.region [{ dst := some 4, op := .box 41 2 (.t 1) },
  { dst := some 5, op := .box 41 2 (.t 2) },
  { dst := some 6, op := .move (.c (.v (.bool false))) }])
 (.scope (.seq (.region [{ dst := some 7, op := .move (.c (.v (.int .i64 0))) }])
 (.seq (.region [{ dst := some 8, op := .move (.c (.v (.bool false))) }])
 (.seq (.label 0)
 (.seq (.seq (.region [{ dst := some 9, op := .load true 2 (.t 5) },
  { dst := some 10, op := .load true 2 (.t 4) },
  { dst := some 11, op := .eqAgg false [1, 1] (.t 9) (.t 10) }])
 (.cond (.t 11) (.seq (.region [{ dst := some 6, op := .move (.c (.v (.bool true))) }])
 .ret) .skip))
 (.seq (.seq (.dregion [{ dst := some 13, op := .move (.t 0) },
  { dst := some 14, op := .nilChk (.t 13) },
  { dst := some 15, op := .faddr 0 (.t 14) },
  { dst := some 16, op := .load false 1 (.t 15) },
  { dst := some 17, op := .load true 2 (.t 5) },
  { dst := some 18, op := .call 228 [(.t 16), (.t 17)] },
  { dst := some 12, op := .move (.t 18) },
  { dst := some 19, op := .ext (.t 12) 0 },
  { dst := some 20, op := .ext (.t 12) 1 },
  { dst := some 7, op := .move (.t 19) },
  { dst := some 8, op := .move (.t 20) }])
 (.seq (.region [{ dst := some 21, op := .move (.t 8) }])
 (.cond (.t 21) (.seq (.region [{ dst := some 22, op := .move (.t 0) },
  { dst := some 23, op := .nilChk (.t 22) },
  { dst := some 24, op := .faddr 0 (.t 23) },
  { dst := some 25, op := .load false 1 (.t 24) },
  { dst := some 26, op := .move (.t 7) },
  { dst := some 27, op := .iaddr 5 (.t 25) (.t 26) },
  { dst := some 28, op := .faddr 2 (.t 27) },
  { dst := some 29, op := .load true 2 (.t 28) },
  { dst := none, op := .store 2 (.t 5) (.t 29) }])
 (.goto 0)) .skip)))
 (.seq (.region [{ dst := some 6, op := .move (.c (.v (.bool false))) }])
 .ret)))))) (.seq (.region [{ dst := some 7, op := .move (.c (.v (.int .i64 0))) }])
 (.seq (.region [{ dst := some 8, op := .move (.c (.v (.bool false))) }])
 (.seq (.label 0)
 (.seq (.seq (.region [{ dst := some 9, op := .load true 2 (.t 5) },
  { dst := some 10, op := .load true 2 (.t 4) },
  { dst := some 11, op := .eqAgg false [1, 1] (.t 9) (.t 10) }])
 (.cond (.t 11) (.seq (.region [{ dst := some 6, op := .move (.c (.v (.bool true))) }])
 .ret) .skip))
 (.seq (.seq (.dregion [{ dst := some 13, op := .move (.t 0) },
  { dst := some 14, op := .nilChk (.t 13) },
  { dst := some 15, op := .faddr 0 (.t 14) },
  { dst := some 16, op := .load false 1 (.t 15) },
  { dst := some 17, op := .load true 2 (.t 5) },
  { dst := some 18, op := .call 228 [(.t 16), (.t 17)] },
  { dst := some 12, op := .move (.t 18) },
  { dst := some 19, op := .ext (.t 12) 0 },
  { dst := some 20, op := .ext (.t 12) 1 },
  { dst := some 7, op := .move (.t 19) },
  { dst := some 8, op := .move (.t 20) }])
 (.seq (.region [{ dst := some 21, op := .move (.t 8) }])
 (.cond (.t 21) (.seq (.region [{ dst := some 22, op := .move (.t 0) },
  { dst := some 23, op := .nilChk (.t 22) },
  { dst := some 24, op := .faddr 0 (.t 23) },
  { dst := some 25, op := .load false 1 (.t 24) },
  { dst := some 26, op := .move (.t 7) },
  { dst := some 27, op := .iaddr 5 (.t 25) (.t 26) },
  { dst := some 28, op := .faddr 2 (.t 27) },
  { dst := some 29, op := .load true 2 (.t 28) },
  { dst := none, op := .store 2 (.t 5) (.t 29) }])
 (.goto 0)) .skip)))
 (.seq (.region [{ dst := some 6, op := .move (.c (.v (.bool false))) }])
 .ret))))))))⟩
/-- (*arras.tree.work).undo -/
def F286 : AFun := ⟨false, 52, [], (.seq (.region [{ dst := some 3, op := .box 200 17 (.t 1) }])
 (.seq (.dregion [{ dst := some 7, op := .move (.t 0) },
  { dst := some 8, op := .nilChk (.t 7) },
  { dst := some 9, op := .faddr 0 (.t 8) },
  { dst := some 10, op := .load false 1 (.t 9) },
  { dst := some 11, op := .faddr 0 (.t 3) },
  { dst := some 12, op := .faddr 5 (.t 11) },
  { dst := some 13, op := .load true 2 (.t 12) },
  { dst := some 14, op := .call 228 [(.t 10), (.t 13)] },
  { dst := some 6, op := .move (.t 14) },
  { dst := some 15, op := .ext (.t 6) 0 },
  { dst := some 16, op := .ext (.t 6) 1 },
  { dst := some 4, op := .move (.t 15) },
  { dst := some 5, op := .move (.t 16) }])
 (.block 0 (.seq (.region [{ dst := some 29, op := .faddr 16 (.t 3) },
  { dst := some 30, op := .load false 1 (.t 29) },
  { dst := some 28, op := .move (.t 30) }])
 (.cond (.t 28) .skip (.seq (.region [{ dst := some 32, op := .faddr 12 (.t 3) },
  { dst := some 33, op := .load false 1 (.t 32) },
  { dst := some 31, op := .move (.t 33) }])
 (.cond (.t 31) (.dregion [{ dst := some 34, op := .move (.t 0) },
  { dst := some 35, op := .nilChk (.t 34) },
  { dst := some 36, op := .faddr 0 (.t 35) },
  { dst := some 37, op := .load false 1 (.t 36) },
  { dst := some 38, op := .move (.t 4) },
  { dst := some 39, op := .move (.t 0) },
  { dst := some 40, op := .nilChk (.t 39) },
  { dst := some 41, op := .faddr 0 (.t 40) },
  { dst := some 42, op := .load false 1 (.t 41) },
  { dst := some 43, op := .move (.t 4) },
  { dst := some 44, op := .faddr 13 (.t 3) },
  { dst := some 45, op := .load true 2 (.t 44) },
  { dst := some 46, op := .faddr 15 (.t 3) },
  { dst := some 47, op := .load false 1 (.t 46) },
  { dst := some 48, op := .iaddr 5 (.t 37) (.t 38) },
  { dst := some 49, op := .faddr 2 (.t 48) },
  { dst := none, op := .store 2 (.t 49) (.t 45), un := [13] },
  { dst := some 50, op := .iaddr 5 (.t 42) (.t 43) },
  { dst := some 51, op := .faddr 4 (.t 50) },
  { dst := none, op := .store 1 (.t 51) (.t 47) }]) (.region [{ dst := some 17, op := .move (.t 0) },
  { dst := some 18, op := .move (.t 0) },
  { dst := some 19, op := .nilChk (.t 18) },
  { dst := some 20, op := .faddr 0 (.t 19) },
  { dst := some 21, op := .load false 1 (.t 20) },
  { dst := some 22, op := .move (.t 4) },
  { dst := some 23, op := .move (.t 4) },
  { dst := some 24, op := .bin .add (.t 23) (.c (.v (.int .i64 1))) },
  { dst := some 25, op := .call 313 [(.t 21), (.t 22), (.t 24)] },
  { dst := some 26, op := .nilChk (.t 17) },
  { dst := some 27, op := .faddr 0 (.t 26) },
  { dst := none, op := .store 1 (.t 27) (.t 25) }]))))))))⟩
/-- (*arras.tree.work).do -/
def F287 : AFun := ⟨false, 79, [.cell 4 true 17], (.seq (.region [{ dst := some 3, op := .box 75 12 (.t 1) },
  { dst := some 4, op := .alloc 200 [.v (.int .i64 0), .v (.int .i64 0), .v (.int .i64 0), .v (.slice none 0 0), .v (.int .i64 0), .v (.int .i64 0), .v (.int .i64 0), .v (.int .i64 0), .v (.int .i64 0), .v (.string ⟨#[]⟩), .v (.int .i64 0), .v (.int .i64 0), .v (.bool false), .v (.int .i64 0), .v (.int .i64 0), .v (.string ⟨#[]⟩), .v (.bool false)] }])
 (.seq (.dregion [{ dst := some 9, op := .load true 12 (.t 3) },
  { dst := some 10, op := .call 143 [(.t 9)] },
  { dst := some 11, op := .move (.t 0) },
  { dst := some 12, op := .faddr 5 (.t 3) },
  { dst := some 13, op := .load true 2 (.t 12) },
  { dst := some 14, op := .faddr 7 (.t 3) },
  { dst := some 15, op := .load true 2 (.t 14) },
  { dst := some 16, op := .call 276 [(.t 11), (.t 13), (.t 15)] },
  { dst := some 17, op := .build [.v (.int .i64 0), .v (.int .i64 0), .v (.int .i64 0), .v (.slice none 0 0), .v (.int .i64 0), .v (.int .i64 0), .v (.int .i64 0), .v (.int .i64 0), .v (.int .i64 0), .v (.string ⟨#[]⟩), .v (.int .i64 0), .v (.int .i64 0), .v (.bool false), .v (.int .i64 0), .v (.int .i64 0), .v (.string ⟨#[]⟩), .v (.bool false)] [(0, 12, (.t 10)), (16, 1, (.t 16))] },
  { dst := some 5, op := .alloc 200 [.v (.int .i64 0), .v (.int .i64 0), .v (.int .i64 0), .v (.slice none 0 0), .v (.int .i64 0), .v (.int .i64 0), .v (.int .i64 0), .v (.int .i64 0), .v (.int .i64 0), .v (.string ⟨#[]⟩), .v (.int .i64 0), .v (.int .i64 0), .v (.bool false), .v (.int .i64 0), .v (.int .i64 0), .v (.string ⟨#[]⟩), .v (.bool false)], un := [0, 1, 4, 6, 7] },
  { dst := none, op := .store 17 (.t 5) (.t 17) }])
 (.seq (.dregion [{ dst := some 19, op := .move (.t 0) },
  { dst := some 20, op := .nilChk (.t 19) },
  { dst := some 21, op := .faddr 0 (.t 20) },
  { dst := some 22, op := .load false 1 (.t 21) },
  { dst := some 23, op := .faddr 5 (.t 3) },
  { dst := some 24, op := .load true 2 (.t 23) },
  { dst := some 25, op := .call 228 [(.t 22), (.t 24)] },
  { dst := some 18, op := .move (.t 25) },
  { dst := some 26, op := .ext (.t 18) 0 },
  { dst := some 27, op := .ext (.t 18) 1 },
  { dst := some 6, op := .move (.t 26) },
  { dst := some 7, op := .move (.t 27) }])
 (.seq (.seq (.region [{ dst := some 28, op := .move (.t 7) }])
 (.cond (.t 28) (.dregion [{ dst := some 29, op := .move (.t 0) },
  { dst := some 30, op := .nilChk (.t 29) },
  { dst := some 31, op := .faddr 0 (.t 30) },
  { dst := some 32, op := .load false 1 (.t 31) },
  { dst := some 33, op := .move (.t 6) },
  { dst := some 34, op := .iaddr 5 (.t 32) (.t 33) },
  { dst := some 35, op := .faddr 2 (.t 34) },
  { dst := some 36, op := .load true 2 (.t 35) },
  { dst := some 37, op := .move (.t 0) },
  { dst := some 38, op := .nilChk (.t 37) },
  { dst := some 39, op := .faddr 0 (.t 38) },
  { dst := some 40, op := .load false 1 (.t 39) },
  { dst := some 41, op := .move (.t 6) },
  { dst := some 42, op := .iaddr 5 (.t 40) (.t 41) },
  { dst := some 43, op := .faddr 4 (.t 42) },
  { dst := some 44, op := .load false 1 (.t 43) },
  { dst := some 45, op := .faddr 12 (.t 5) },
  { dst := none, op := .store 1 (.t 45) (.c (.v (.bool true))), un := [3, 7, 11, 15] },
  { dst := some 46, op := .faddr 13 (.t 5) },
  { dst := none, op := .store 2 (.t 46) (.t 36), un := [11, 15] },
  { dst := some 47, op := .faddr 15 (.t 5) },
  { dst := none, op := .store 1 (.t 47) (.t 44) }]) .skip))
 (.seq (.region [{ dst := some 48, op := .faddr 5 (.t 3) },
  { dst := some 49, op := .load true 2 (.t 48) },
  { dst := some 50, op := .faddr 7 (.t 3) },
  { dst := some 51, op := .load true 2 (.t 50) },
  { dst := some 52, op := .faddr 9 (.t 3) },
  { dst := some 53, op := .load false 1 (.t 52) },
  { dst := some 54, op := .build [.v (.int .i64 0), .v (.int .i64 0), .v (.int .i64 0), .v (.int .i64 0), .v (.string ⟨#[]⟩)] [(0, 2, (.t 49)), (2, 2, (.t 51)), (4, 1, (.t 53))] },
  { dst := some 8, op := .alloc 197 [.v (.int .i64 0), .v (.int .i64 0), .v (.int .i64 0), .v (.int .i64 0), .v (.string ⟨#[]⟩)] },
  { dst := none, op := .store 5 (.t 8) (.t 54) }])
 (.seq (.block 0 (.seq (.region [{ dst := some 67, op := .faddr 16 (.t 5) },
  { dst := some 68, op := .load false 1 (.t 67) },
  { dst := some 66, op := .move (.t 68) }])
 (.cond (.t 66) .skip (.seq (.region [{ dst := some 70, op := .move (.t 7) },
  { dst := some 69, op := .move (.t 70) }])
 (.cond (.t 69) (.dregion [{ dst := some 71, op := .move (.t 0) },
  { dst := some 72, op := .nilChk (.t 71) },
  { dst := some 73, op := .faddr 0 (.t 72) },
  { dst := some 74, op := .load false 1 (.t 73) },
  { dst := some 75, op := .move (.t 6) },
  { dst := some 76, op := .load true 5 (.t 8) },
  { dst := some 77, op := .iaddr 5 (.t 74) (.t 75) },
  { dst := none, op := .store 5 (.t 77) (.t 76) }]) (.dregion [{ dst := some 55, op := .move (.t 0) },
  { dst := some 56, op := .move (.t 0) },
  { dst := some 57, op := .nilChk (.t 56) },
  { dst := some 58, op := .faddr 0 (.t 57) },
  { dst := some 59, op := .load false 1 (.t 58) },
  { dst := some 60, op := .move (.t 6) },
  { dst := some 61, op := .load true 5 (.t 8) },
  { dst := some 62, op := .buildSlice 197 5 1 [.v (.int .i64 0), .v (.int .i64 0), .v (.int .i64 0), .v (.int .i64 0), .v (.string ⟨#[]⟩)] [(0, 5, (.t 61))], un := [4] },
  { dst := some 63, op := .call 314 [(.t 59), (.t 60), (.t 62)] },
  { dst := some 64, op := .nilChk (.t 55) },
  { dst := some 65, op := .faddr 0 (.t 64) },
  { dst := none, op := .store 1 (.t 65) (.t 63) }]))))))
 (.seq (.region [{ dst := some 78, op := .load true 17 (.t 5) },
  { dst := none, op := .store 17 (.t 4) (.t 78) }])
 .ret)))))))⟩
/-- slices.BinarySearchFunc[[]arras.api.Look,arras.api.Look,arras.api.Stamp] -/
def F288 : AFun := ⟨true, 49, [.t 6, .t 7], (.seq (.region [{ dst := some 4, op := .box 41 2 (.t 1) },
  { dst := some 6, op := .move (.c (.v (.int .i64 0))) },
  { dst := some 7, op := .move (.c (.v (.bool false))) }])
 (.seq (.region [{ dst := some 12, op := .move (.t 0) },
  { dst := some 13, op := .len (.t 12) },
  { dst := some 8, op := .move (.t 13) }])
 (.seq (.region [{ dst := some 14, op := .move (.t 8) },
  { dst := some 9, op := .move (.c (.v (.int .i64 0))) },
  { dst := some 10, op := .move (.t 14) }])
 (.seq (.block 0 (.loop (.seq (.seq (.region [{ dst := some 15, op := .move (.t 9) },
  { dst := some 16, op := .move (.t 10) },
  { dst := some 17, op := .bin .lss (.t 15) (.t 16) }])
 (.cond (.t 17) .skip (.exit 0)))
 (.block 1 (.seq (.region [{ dst := some 18, op := .move (.t 9) },
  { dst := some 19, op := .move (.t 10) },
  { dst := some 20, op := .bin .add (.t 18) (.t 19) },
  { dst := some 21, op := .conv .u64 (.t 20) },
  { dst := some 22, op := .bin .shr (.t 21) (.c (.v (.int .u64 1))) },
  { dst := some 23, op := .conv .i64 (.t 22) },
  { dst := some 11, op := .move (.t 23) }])
 (.seq (.dregion [{ dst := some 24, op := .move (.t 2) },
  { dst := some 25, op := .move (.t 0) },
  { dst := some 26, op := .move (.t 11) },
  { dst := some 27, op := .iaddr 3 (.t 25) (.t 26) },
  { dst := some 28, op := .load true 3 (.t 27) },
  { dst := some 29, op := .load true 2 (.t 4) },
  { dst := some 30, op := .callv (.t 24) [(.t 28), (.t 29)] },
  { dst := some 31, op := .bin .lss (.t 30) (.c (.v (.int .i64 0))) }])
 (.cond (.t 31) (.region [{ dst := some 32, op := .move (.t 11) },
  { dst := some 33, op := .bin .add (.t 32) (.c (.v (.int .i64 1))) },
  { dst := some 9, op := .move (.t 33) }]) (.region [{ dst := some 34, op := .move (.t 11) },
  { dst := some 10, op := .move (.t 34) }]))))))))
 (.seq (.dregion [{ dst := some 35, op := .move (.t 9) },
  { dst := some 36, op := .move (.t 9) },
  { dst := some 37, op := .move (.t 8) },
  { dst := some 38, op := .bin .lss (.t 36) (.t 37) },
  { dst := some 39, op := .move (.t 38) },
  { dst := some 40, op := .move (.t 2), guard := some (39, true) },
  { dst := some 41, op := .move (.t 0), guard := some (39, true) },
  { dst := some 42, op := .move (.t 9), guard := some (39, true) },
  { dst := some 43, op := .iaddr 3 (.t 41) (.t 42), guard := some (39, true) },
  { dst := some 44, op := .load true 3 (.t 43), guard := some (39, true) },
  { dst := some 45, op := .load true 2 (.t 4), guard := some (39, true) },
  { dst := some 46, op := .callv (.t 40) [(.t 44), (.t 45)], guard := some (39, true) },
  { dst := some 47, op := .bin .eql (.t 46) (.c (.v (.int .i64 0))), guard := some (39, true) },
  { dst := some 48, op := .pick (.t 39) (.t 47) (.c (.v (.bool false))) },
  { dst := some 6, op := .move (.t 35) },
  { dst := some 7, op := .move (.t 48) }])
 .ret)))))⟩
/-- arras.shape.find$1 -/
def F289 : AFun := ⟨true, 9, [.t 4], (.seq (.region [{ dst := some 2, op := .box 162 3 (.t 0) },
  { dst := some 3, op := .box 41 2 (.t 1) },
  { dst := some 4, op := .move (.c (.v (.int .i64 0))) }])
 (.seq (.region [{ dst := some 5, op := .faddr 0 (.t 2) },
  { dst := some 6, op := .load true 2 (.t 5) },
  { dst := some 7, op := .load true 2 (.t 3) },
  { dst := some 8, op := .call 178 [(.t 6), (.t 7)] },
  { dst := some 4, op := .move (.t 8) }])
 .ret))⟩
/-- slices.rotateRight[arras.api.Look] -/
def F291 : AFun := ⟨false, 10, [], (.region [{ dst := some 4, op := .move (.t 0) },
  { dst := some 5, op := .move (.t 0) },
  { dst := some 6, op := .len (.t 5) },
  { dst := some 7, op := .move (.t 1) },
  { dst := some 8, op := .bin .sub (.t 6) (.t 7) },
  { dst := some 9, op := .call 315 [(.t 4), (.t 8)] }])⟩
/-- arras.reg.find -/
def F292 : AFun := ⟨true, 11, [.t 4, .t 5], (.seq (.region [{ dst := some 4, op := .move (.c (.v (.int .i64 0))) },
  { dst := some 5, op := .move (.c (.v (.bool false))) }])
 (.seq (.region [{ dst := some 6, op := .move (.t 0) },
  { dst := some 7, op := .move (.t 1) },
  { dst := some 8, op := .call 316 [(.t 6), (.t 7), (.c (.fn 317 []))] },
  { dst := some 9, op := .ext (.t 8) 0 },
  { dst := some 10, op := .ext (.t 8) 1 },
  { dst := some 4, op := .move (.t 9) },
  { dst := some 5, op := .move (.t 10) }])
 .ret))⟩
/-- slices.Insert[[]arras.api.Reg,arras.api.Reg] -/
def F293 : AFun := ⟨false, 95, [.t 6], (.seq (.region [{ dst := some 6, op := .move (.c (.v (.slice none 0 0))) }])
 (.seq (.region [{ dst := some 10, op := .move (.t 0) },
  { dst := some 11, op := .move (.t 1) },
  { dst := some 12, op := .slice 4 (.t 10) (some (.t 11)) none none }])
 (.seq (.region [{ dst := some 13, op := .move (.t 2) },
  { dst := some 14, op := .len (.t 13) },
  { dst := some 7, op := .move (.t 14) }])
 (.seq (.seq (.region [{ dst := some 15, op := .move (.t 7) },
  { dst := some 16, op := .bin .eql (.t 15) (.c (.v (.int .i64 0))) }])
 (.cond (.t 16) (.seq (.region [{ dst := some 17, op := .move (.t 0) },
  { dst := some 6, op := .move (.t 17) }])
 .ret) .skip))
 (.seq (.region [{ dst := some 18, op := .move (.t 0) },
  { dst := some 19, op := .len (.t 18) },
  { dst := some 8, op := .move (.t 19) }])
 (.seq (.seq (.region [{ dst := some 20, op := .move (.t 1) },
  { dst := some 21, op := .move (.t 8) },
  { dst := some 22, op := .bin .eql (.t 20) (.t 21) }])
 (.cond (.t 22) (.seq (.region [{ dst := some 23, op := .move (.t 0) },
  { dst := some 24, op := .move (.t 2) },
  { dst := some 25, op := .append 224 4 32 (.t 23) (.t 24) },
  { dst := some 6, op := .move (.t 25) }])
 .ret) .skip))
 (.seq (.seq (.region [{ dst := some 26, op := .move (.t 8) },
  { dst := some 27, op := .move (.t 7) },
  { dst := some 28, op := .bin .add (.t 26) (.t 27) },
  { dst := some 29, op := .move (.t 0) },
  { dst := some 30, op := .bad },
  { dst := some 31, op := .bin .gtr (.t 28) (.t 30) }])
 (.cond (.t 31) (.seq (.region [{ dst := some 32, op := .move (.t 0) },
  { dst := some 33, op := .move (.t 1) },
  { dst := some 34, op := .slice 4 (.t 32) none (some (.t 33)) none },
  { dst := some 35, op := .move (.t 8) },
  { dst := some 36, op := .move (.t 7) },
  { dst := some 37, op := .bin .add (.t 35) (.t 36) },
  { dst := some 38, op := .move (.t 1) },
  { dst := some 39, op := .bin .sub (.t 37) (.t 38) },
  { dst := some 40, op := .bad },
  { dst := some 9, op := .move (.t 40) }])
 (.seq (.region [{ dst := some 41, op := .move (.t 9) },
  { dst := some 42, op := .move (.t 1) },
  { dst := some 43, op := .slice 4 (.t 41) (some (.t 42)) none none },
  { dst := some 44, op := .move (.t 2) },
  { dst := some 45, op := .copy 4 (.t 43) (.t 44) }])
 (.seq (.dregion [{ dst := some 46, op := .move (.t 9) },
  { dst := some 47, op := .move (.t 1) },
  { dst := some 48, op := .move (.t 7) },
  { dst := some 49, op := .bin .add (.t 47) (.t 48) },
  { dst := some 50, op := .slice 4 (.t 46) (some (.t 49)) none none },
  { dst := some 51, op := .move (.t 0) },
  { dst := some 52, op := .move (.t 1) },
  { dst := some 53, op := .slice 4 (.t 51) (some (.t 52)) none none },
  { dst := some 54, op := .copy 4 (.t 50) (.t 53) }])
 (.seq (.region [{ dst := some 55, op := .move (.t 9) },
  { dst := some 6, op := .move (.t 55) }])
 .ret)))) .skip))
 (.seq (.region [{ dst := some 56, op := .move (.t 0) },
  { dst := some 57, op := .move (.t 8) },
  { dst := some 58, op := .move (.t 7) },
  { dst := some 59, op := .bin .add (.t 57) (.t 58) },
  { dst := some 60, op := .slice 4 (.t 56) none (some (.t 59)) none },
  { dst := some 0, op := .move (.t 60) }])
 (.seq (.seq (.region [{ dst := some 61, op := .move (.t 2) },
  { dst := some 62, op := .move (.t 0) },
  { dst := some 63, op := .move (.t 1) },
  { dst := some 64, op := .move (.t 7) },
  { dst := some 65, op := .bin .add (.t 63) (.t 64) },
  { dst := some 66, op := .slice 4 (.t 62) (some (.t 65)) none none },
  { dst := some 67, op := .call 318 [(.t 61), (.t 66)] },
  { dst := some 68, op := .un .not (.t 67) }])
 (.cond (.t 68) (.seq (.dregion [{ dst := some 69, op := .move (.t 0) },
  { dst := some 70, op := .move (.t 1) },
  { dst := some 71, op := .move (.t 7) },
  { dst := some 72, op := .bin .add (.t 70) (.t 71) },
  { dst := some 73, op := .slice 4 (.t 69) (some (.t 72)) none none },
  { dst := some 74, op := .move (.t 0) },
  { dst := some 75, op := .move (.t 1) },
  { dst := some 76, op := .slice 4 (.t 74) (some (.t 75)) none none },
  { dst := some 77, op := .copy 4 (.t 73) (.t 76) }])
 (.seq (.region [{ dst := some 78, op := .move (.t 0) },
  { dst := some 79, op := .move (.t 1) },
  { dst := some 80, op := .slice 4 (.t 78) (some (.t 79)) none none },
  { dst := some 81, op := .move (.t 2) },
  { dst := some 82, op := .copy 4 (.t 80) (.t 81) }])
 (.seq (.region [{ dst := some 83, op := .move (.t 0) },
  { dst := some 6, op := .move (.t 83) }])
 .ret))) .skip))
 (.seq (.region [{ dst := some 84, op := .move (.t 0) },
  { dst := some 85, op := .move (.t 8) },
  { dst := some 86, op := .slice 4 (.t 84) (some (.t 85)) none none },
  { dst := some 87, op := .move (.t 2) },
  { dst := some 88, op := .copy 4 (.t 86) (.t 87) }])
 (.seq (.region [{ dst := some 89, op := .move (.t 0) },
  { dst := some 90, op := .move (.t 1) },
  { dst := some 91, op := .slice 4 (.t 89) (some (.t 90)) none none },
  { dst := some 92, op := .move (.t 7) },
  { dst := some 93, op := .call 319 [(.t 91), (.t 92)] }])
 (.seq (.region [{ dst := some 94, op := .move (.t 0) },
  { dst := some 6, op := .move (.t 94) }])
 .ret))))))))))))⟩
/-- slices.rotateRight[arras.api.Op] -/
def F298 : AFun := ⟨false, 10, [], (.region [{ dst := some 4, op := .move (.t 0) },
  { dst := some 5, op := .move (.t 0) },
  { dst := some 6, op := .len (.t 5) },
  { dst := some 7, op := .move (.t 1) },
  { dst := some 8, op := .bin .sub (.t 6) (.t 7) },
  { dst := some 9, op := .call 320 [(.t 4), (.t 8)] }])⟩
/-- arras.stamp.Take -/
def F301 : AFun := ⟨true, 41, [.cell 2 true 2, .t 3, .t 4], (.seq (.region [{ dst := some 2, op := .alloc 41 [.v (.int .i64 0), .v (.int .i64 0)] },
  { dst := some 3, op := .move (.c (.v (.int .i64 0))) },
  { dst := some 4, op := .move (.c (.v (.int .i64 0))) }])
 (.seq (.region [{ dst := some 9, op := .move (.t 0) },
  { dst := some 10, op := .call 251 [(.t 9)] },
  { dst := some 8, op := .move (.t 10) },
  { dst := some 11, op := .ext (.t 8) 0 },
  { dst := some 12, op := .ext (.t 8) 1 },
  { dst := some 13, op := .ext (.t 8) 2 },
  { dst := some 5, op := .move (.t 11) },
  { dst := some 3, op := .move (.t 12) },
  { dst := some 4, op := .move (.t 13) }])
 (.seq (.seq (.region [{ dst := some 14, op := .move (.t 4) },
  { dst := some 15, op := .bin .neq (.t 14) (.c (.v (.int .i64 0))) }])
 (.cond (.t 15) (.seq (.region [{ dst := some 16, op := .build [.v (.int .i64 0), .v (.int .i64 0)] [] },
  { dst := some 17, op := .move (.t 4) },
  { dst := none, op := .store 2 (.t 2) (.t 16) },
  { dst := some 3, op := .move (.c (.v (.int .i64 0))) },
  { dst := some 4, op := .move (.t 17) }])
 .ret) .skip))
 (.seq (.region [{ dst := some 19, op := .move (.t 0) },
  { dst := some 20, op := .move (.t 3) },
  { dst := some 21, op := .slice 1 (.t 19) (some (.t 20)) none none },
  { dst := some 22, op := .call 251 [(.t 21)] },
  { dst := some 18, op := .move (.t 22) },
  { dst := some 23, op := .ext (.t 18) 0 },
  { dst := some 24, op := .ext (.t 18) 1 },
  { dst := some 25, op := .ext (.t 18) 2 },
  { dst := some 6, op := .move (.t 23) },
  { dst := some 7, op := .move (.t 24) },
  { dst := some 4, op := .move (.t 25) }])
 (.seq (.seq (.region [{ dst := some 26, op := .move (.t 4) },
  { dst := some 27, op := .bin .neq (.t 26) (.c (.v (.int .i64 0))) }])
 (.cond (.t 27) (.seq (.region [{ dst := some 28, op := .build [.v (.int .i64 0), .v (.int .i64 0)] [] },
  { dst := some 29, op := .move (.t 4) },
  { dst := none, op := .store 2 (.t 2) (.t 28) },
  { dst := some 3, op := .move (.c (.v (.int .i64 0))) },
  { dst := some 4, op := .move (.t 29) }])
 .ret) .skip))
 (.seq (.seq (.region [{ dst := some 30, op := .move (.t 5) },
  { dst := some 31, op := .move (.t 6) },
  { dst := some 32, op := .build [.v (.int .i64 0), .v (.int .i64 0)] [(0, 1, (.t 30)), (1, 1, (.t 31))] },
  { dst := none, op := .store 2 (.t 2) (.t 32) }])
 (.seq (.region [{ dst := some 33, op := .load true 2 (.t 2) },
  { dst := some 34, op := .call 191 [(.t 33)] },
  { dst := some 35, op := .un .not (.t 34) }])
 (.cond (.t 35) (.seq (.region [{ dst := some 36, op := .build [.v (.int .i64 0), .v (.int .i64 0)] [] },
  { dst := none, op := .store 2 (.t 2) (.t 36) },
  { dst := some 3, op := .move (.c (.v (.int .i64 0))) },
  { dst := some 4, op := .move (.c (.v (.int .i64 1))) }])
 .ret) .skip)))
 (.seq (.region [{ dst := some 37, op := .load true 2 (.t 2) },
  { dst := some 38, op := .move (.t 3) },
  { dst := some 39, op := .move (.t 7) },
  { dst := some 40, op := .bin .add (.t 38) (.t 39) },
  { dst := none, op := .store 2 (.t 2) (.t 37) },
  { dst := some 3, op := .move (.t 40) },
  { dst := some 4, op := .move (.c (.v (.int .i64 0))) }])
 .ret)))))))⟩
/-- slices.pdqsortCmpFunc[arras.api.Node] -/
def F303 : AFun := ⟨false, 148, [], (.seq (.region [{ dst := some 10, op := .move (.c (.v (.bool true))) }])
 (.seq (.region [{ dst := some 11, op := .move (.c (.v (.bool true))) }])
 (.block 0 (.loop (.block 1 (.seq (.region [{ dst := some 21, op := .move (.t 2) },
  { dst := some 22, op := .move (.t 1) },
  { dst := some 23, op := .bin .sub (.t 21) (.t 22) },
  { dst := some 12, op := .move (.t 23) }])
 (.seq (.seq (.region [{ dst := some 24, op := .move (.t 12) },
  { dst := some 25, op := .bin .leq (.t 24) (.c (.v (.int .i64 12))) }])
 (.cond (.t 25) (.seq (.region [{ dst := some 26, op := .move (.t 0) },
  { dst := some 27, op := .move (.t 1) },
  { dst := some 28, op := .move (.t 2) },
  { dst := some 29, op := .move (.t 4) },
  { dst := some 30, op := .call 321 [(.t 26), (.t 27), (.t 28), (.t 29)] }])
 .ret) .skip))
 (.seq (.seq (.region [{ dst := some 31, op := .move (.t 3) },
  { dst := some 32, op := .bin .eql (.t 31) (.c (.v (.int .i64 0))) }])
 (.cond (.t 32) (.seq (.region [{ dst := some 33, op := .move (.t 0) },
  { dst := some 34, op := .move (.t 1) },
  { dst := some 35, op := .move (.t 2) },
  { dst := some 36, op := .move (.t 4) },
  { dst := some 37, op := .call 322 [(.t 33), (.t 34), (.t 35), (.t 36)] }])
 .ret) .skip))
 (.seq (.seq (.region [{ dst := some 38, op := .move (.t 10) },
  { dst := some 39, op := .un .not (.t 38) }])
 (.cond (.t 39) (.seq (.region [{ dst := some 40, op := .move (.t 0) },
  { dst := some 41, op := .move (.t 1) },
  { dst := some 42, op := .move (.t 2) },
  { dst := some 43, op := .move (.t 4) },
  { dst := some 44, op := .call 323 [(.t 40), (.t 41), (.t 42), (.t 43)] }])
 (.region [{ dst := some 45, op := .move (.t 3) },
  { dst := some 46, op := .bin .sub (.t 45) (.c (.v (.int .i64 1))) },
  { dst := some 3, op := .move (.t 46) }])) .skip))
 (.seq (.region [{ dst := some 48, op := .move (.t 0) },
  { dst := some 49, op := .move (.t 1) },
  { dst := some 50, op := .move (.t 2) },
  { dst := some 51, op := .move (.t 4) },
  { dst := some 52, op := .call 324 [(.t 48), (.t 49), (.t 50), (.t 51)] },
  { dst := some 47, op := .move (.t 52) },
  { dst := some 53, op := .ext (.t 47) 0 },
  { dst := some 54, op := .ext (.t 47) 1 },
  { dst := some 13, op := .move (.t 53) },
  { dst := some 14, op := .move (.t 54) }])
 (.seq (.seq (.region [{ dst := some 55, op := .move (.t 14) },
  { dst := some 56, op := .bin .eql (.t 55) (.c (.v (.int .i64 2))) }])
 (.cond (.t 56) (.seq (.region [{ dst := some 57, op := .move (.t 0) },
  { dst := some 58, op := .move (.t 1) },
  { dst := some 59, op := .move (.t 2) },
  { dst := some 60, op := .move (.t 4) },
  { dst := some 61, op := .call 325 [(.t 57), (.t 58), (.t 59), (.t 60)] }])
 (.seq (.region [{ dst := some 62, op := .move (.t 2) },
  { dst := some 63, op := .bin .sub (.t 62) (.c (.v (.int .i64 1))) },
  { dst := some 64, op := .move (.t 13) },
  { dst := some 65, op := .move (.t 1) },
  { dst := some 66, op := .bin .sub (.t 64) (.t 65) },
  { dst := some 67, op := .bin .sub (.t 63) (.t 66) },
  { dst := some 13, op := .move (.t 67) }])
 (.region [{ dst := some 14, op := .move (.c (.v (.int .i64 1))) }]))) .skip))
 (.seq (.seq (.region [{ dst := some 68, op := .move (.t 10) },
  { dst := some 69, op := .move (.t 68) },
  { dst := some 70, op := .move (.t 11), guard := some (69, true) },
  { dst := some 71, op := .pick (.t 69) (.t 70) (.c (.v (.bool false))) },
  { dst := some 72, op := .move (.t 71) },
  { dst := some 73, op := .move (.t 14), guard := some (72, true) },
  { dst := some 74, op := .bin .eql (.t 73) (.c (.v (.int .i64 1))), guard := some (72, true) },
  { dst := some 75, op := .pick (.t 72) (.t 74) (.c (.v (.bool false))) }])
 (.cond (.t 75) (.seq (.region [{ dst := some 76, op := .move (.t 0) },
  { dst := some 77, op := .move (.t 1) },
  { dst := some 78, op := .move (.t 2) },
  { dst := some 79, op := .move (.t 4) },
  { dst := some 80, op := .call 326 [(.t 76), (.t 77), (.t 78), (.t 79)] }])
 (.cond (.t 80) .ret .skip)) .skip))
 (.seq (.seq (.dregion [{ dst := some 81, op := .move (.t 1) },
  { dst := some 82, op := .bin .gtr (.t 81) (.c (.v (.int .i64 0))) },
  { dst := some 83, op := .move (.t 82) },
  { dst := some 84, op := .move (.t 4), guard := some (83, true) },
  { dst := some 85, op := .move (.t 0), guard := some (83, true) },
  { dst := some 86, op := .move (.t 1), guard := some (83, true) },
  { dst := some 87, op := .bin .sub (.t 86) (.c (.v (.int .i64 1))), guard := some (83, true) },
  { dst := some 88, op := .iaddr 5 (.t 85) (.t 87), guard := some (83, true) },
  { dst := some 89, op := .load true 5 (.t 88), guard := some (83, true) },
  { dst := some 90, op := .move (.t 0), guard := some (83, true) },
  { dst := some 91, op := .move (.t 13), guard := some (83, true) },
  { dst := some 92, op := .iaddr 5 (.t 90) (.t 91), guard := some (83, true) },
  { dst := some 93, op := .load true 5 (.t 92), guard := some (83, true) },
  { dst := some 94, op := .callv (.t 84) [(.t 89), (.t 93)], guard := some (83, true) },
  { dst := some 95, op := .bin .lss (.t 94) (.c (.v (.int .i64 0))), guard := some (83, true) },
  { dst := some 96, op := .un .not (.t 95), guard := some (83, true) },
  { dst := some 97, op := .pick (.t 83) (.t 96) (.c (.v (.bool false))) }])
 (.cond (.t 97) (.seq (.region [{ dst := some 98, op := .move (.t 0) },
  { dst := some 99, op := .move (.t 1) },
  { dst := some 100, op := .move (.t 2) },
  { dst := some 101, op := .move (.t 13) },
  { dst := some 102, op := .move (.t 4) },
  { dst := some 103, op := .call 327 [(.t 98), (.t 99), (.t 100), (.t 101), (.t 102)] },
  { dst := some 15, op := .move (.t 103) }])
 (.seq (.region [{ dst := some 104, op := .move (.t 15) },
  { dst := some 1, op := .move (.t 104) }])
 (.exit 1))) .skip))
 (.seq (.region [{ dst := some 106, op := .move (.t 0) },
  { dst := some 107, op := .move (.t 1) },
  { dst := some 108, op := .move (.t 2) },
  { dst := some 109, op := .move (.t 13) },
  { dst := some 110, op := .move (.t 4) },
  { dst := some 111, op := .call 328 [(.t 106), (.t 107), (.t 108), (.t 109), (.t 110)] },
  { dst := some 105, op := .move (.t 111) },
  { dst := some 112, op := .ext (.t 105) 0 },
  { dst := some 113, op := .ext (.t 105) 1 },
  { dst := some 16, op := .move (.t 112) },
  { dst := some 17, op := .move (.t 113) }])
 (.seq (.region [{ dst := some 114, op := .move (.t 17) },
  { dst := some 11, op := .move (.t 114) }])
 (.seq (.region [{ dst := some 115, op := .move (.t 16) },
  { dst := some 116, op := .move (.t 1) },
  { dst := some 117, op := .bin .sub (.t 115) (.t 116) },
  { dst := some 118, op := .move (.t 2) },
  { dst := some 119, op := .move (.t 16) },
  { dst := some 120, op := .bin .sub (.t 118) (.t 119) },
  { dst := some 18, op := .move (.t 117) },
  { dst := some 19, op := .move (.t 120) }])
 (.seq (.region [{ dst := some 121, op := .move (.t 12) },
  { dst := some 122, op := .bin .quo (.t 121) (.c (.v (.int .i64 8))) },
  { dst := some 20, op := .move (.t 122) }])
 (.seq (.region [{ dst := some 123, op := .move (.t 18) },
  { dst := some 124, op := .move (.t 19) },
  { dst := some 125, op := .bin .lss (.t 123) (.t 124) }])
 (.cond (.t 125) (.seq (.region [{ dst := some 126, op := .move (.t 18) },
  { dst := some 127, op := .move (.t 20) },
  { dst := some 128, op := .bin .geq (.t 126) (.t 127) },
  { dst := some 10, op := .move (.t 128) }])
 (.seq (.region [{ dst := some 129, op := .move (.t 0) },
  { dst := some 130, op := .move (.t 1) },
  { dst := some 131, op := .move (.t 16) },
  { dst := some 132, op := .move (.t 3) },
  { dst := some 133, op := .move (.t 4) },
  { dst := some 134, op := .call 303 [(.t 129), (.t 130), (.t 131), (.t 132), (.t 133)] }])
 (.region [{ dst := some 135, op := .move (.t 16) },
  { dst := some 136, op := .bin .add (.t 135) (.c (.v (.int .i64 1))) },
  { dst := some 1, op := .move (.t 136) }]))) (.seq (.region [{ dst := some 137, op := .move (.t 19) },
  { dst := some 138, op := .move (.t 20) },
  { dst := some 139, op := .bin .geq (.t 137) (.t 138) },
  { dst := some 10, op := .move (.t 139) }])
 (.seq (.region [{ dst := some 140, op := .move (.t 0) },
  { dst := some 141, op := .move (.t 16) },
  { dst := some 142, op := .bin .add (.t 141) (.c (.v (.int .i64 1))) },
  { dst := some 143, op := .move (.t 2) },
  { dst := some 144, op := .move (.t 3) },
  { dst := some 145, op := .move (.t 4) },
  { dst := some 146, op := .call 303 [(.t 140), (.t 142), (.t 143), (.t 144), (.t 145)] }])
 (.region [{ dst := some 147, op := .move (.t 16) },
  { dst := some 2, op := .move (.t 147) }]))))))))))))))))))))))⟩
/-- math.bits.Len -/
def F304 : AFun := ⟨true, 8, [.t 2], (.seq (.region [{ dst := some 2, op := .move (.c (.v (.int .i64 0))) }])
 (.seq (.cond (.c (.v (.bool false))) (.seq (.region [{ dst := some 3, op := .move (.t 0) },
  { dst := some 4, op := .conv .u32 (.t 3) },
  { dst := some 5, op := .call 329 [(.t 4)] },
  { dst := some 2, op := .move (.t 5) }])
 .ret) .skip)
 (.seq (.region [{ dst := some 6, op := .move (.t 0) },
  { dst := some 7, op := .call 330 [(.t 6)] },
  { dst := some 2, op := .move (.t 7) }])
 .ret)))⟩
/-- internal.bytealg.CompareString -/
def F305 : AFun := ⟨true, 8, [.t 4], (.seq (.region [{ dst := some 4, op := .move (.c (.v (.int .i64 0))) }])
 (.seq (.region [{ dst := some 5, op := .move (.t 0) },
  { dst := some 6, op := .move (.t 1) },
  { dst := some 7, op := .call 331 [(.t 5), (.t 6)] },
  { dst := some 4, op := .move (.t 7) }])
 .ret))⟩
/-- slices.Delete[[]arras.api.Node,arras.api.Node] -/
def F313 : AFun := ⟨false, 33, [.t 6], (.seq (.region [{ dst := some 6, op := .move (.c (.v (.slice none 0 0))) }])
 (.seq (.region [{ dst := some 8, op := .move (.t 0) },
  { dst := some 9, op := .move (.t 1) },
  { dst := some 10, op := .move (.t 2) },
  { dst := some 11, op := .move (.t 0) },
  { dst := some 12, op := .len (.t 11) },
  { dst := some 13, op := .slice 5 (.t 8) (some (.t 9)) (some (.t 10)) (some (.t 12)) }])
 (.seq (.seq (.region [{ dst := some 14, op := .move (.t 1) },
  { dst := some 15, op := .move (.t 2) },
  { dst := some 16, op := .bin .eql (.t 14) (.t 15) }])
 (.cond (.t 16) (.seq (.region [{ dst := some 17, op := .move (.t 0) },
  { dst := some 6, op := .move (.t 17) }])
 .ret) .skip))
 (.seq (.region [{ dst := some 18, op := .move (.t 0) },
  { dst := some 19, op := .len (.t 18) },
  { dst := some 7, op := .move (.t 19) }])
 (.seq (.dregion [{ dst := some 20, op := .move (.t 0) },
  { dst := some 21, op := .move (.t 1) },
  { dst := some 22, op := .slice 5 (.t 20) none (some (.t 21)) none },
  { dst := some 23, op := .move (.t 0) },
  { dst := some 24, op := .move (.t 2) },
  { dst := some 25, op := .slice 5 (.t 23) (some (.t 24)) none none },
  { dst := some 26, op := .append 197 5 48 (.t 22) (.t 25) },
  { dst := some 0, op := .move (.t 26) }])
 (.seq (.region [{ dst := some 27, op := .move (.t 0) },
  { dst := some 28, op := .move (.t 0) },
  { dst := some 29, op := .len (.t 28) },
  { dst := some 30, op := .move (.t 7) },
  { dst := some 31, op := .slice 5 (.t 27) (some (.t 29)) (some (.t 30)) none },
  { dst := none, op := .clear 5 [.v (.int .i64 0), .v (.int .i64 0), .v (.int .i64 0), .v (.int .i64 0), .v (.string ⟨#[]⟩)] (.t 31) }])
 (.seq (.region [{ dst := some 32, op := .move (.t 0) },
  { dst := some 6, op := .move (.t 32) }])
 .ret)))))))⟩
/-- slices.Insert[[]arras.api.Node,arras.api.Node] -/
def F314 : AFun := ⟨false, 95, [.t 6], (.seq (.region [{ dst := some 6, op := .move (.c (.v (.slice none 0 0))) }])
 (.seq (.region [{ dst := some 10, op := .move (.t 0) },
  { dst := some 11, op := .move (.t 1) },
  { dst := some 12, op := .slice 5 (.t 10) (some (.t 11)) none none }])
 (.seq (.region [{ dst := some 13, op := .move (.t 2) },
  { dst := some 14, op := .len (.t 13) },
  { dst := some 7, op := .move (.t 14) }])
 (.seq (.seq (.region [{ dst := some 15, op := .move (.t 7) },
  { dst := some 16, op := .bin .eql (.t 15) (.c (.v (.int .i64 0))) }])
 (.cond (.t 16) (.seq (.region [{ dst := some 17, op := .move (.t 0) },
  { dst := some 6, op := .move (.t 17) }])
 .ret) .skip))
 (.seq (.region [{ dst := some 18, op := .move (.t 0) },
  { dst := some 19, op := .len (.t 18) },
  { dst := some 8, op := .move (.t 19) }])
 (.seq (.seq (.region [{ dst := some 20, op := .move (.t 1) },
  { dst := some 21, op := .move (.t 8) },
  { dst := some 22, op := .bin .eql (.t 20) (.t 21) }])
 (.cond (.t 22) (.seq (.region [{ dst := some 23, op := .move (.t 0) },
  { dst := some 24, op := .move (.t 2) },
  { dst := some 25, op := .append 197 5 48 (.t 23) (.t 24) },
  { dst := some 6, op := .move (.t 25) }])
 .ret) .skip))
 (.seq (.seq (.region [{ dst := some 26, op := .move (.t 8) },
  { dst := some 27, op := .move (.t 7) },
  { dst := some 28, op := .bin .add (.t 26) (.t 27) },
  { dst := some 29, op := .move (.t 0) },
  { dst := some 30, op := .bad },
  { dst := some 31, op := .bin .gtr (.t 28) (.t 30) }])
 (.cond (.t 31) (.seq (.region [{ dst := some 32, op := .move (.t 0) },
  { dst := some 33, op := .move (.t 1) },
  { dst := some 34, op := .slice 5 (.t 32) none (some (.t 33)) none },
  { dst := some 35, op := .move (.t 8) },
  { dst := some 36, op := .move (.t 7) },
  { dst := some 37, op := .bin .add (.t 35) (.t 36) },
  { dst := some 38, op := .move (.t 1) },
  { dst := some 39, op := .bin .sub (.t 37) (.t 38) },
  { dst := some 40, op := .bad },
  { dst := some 9, op := .move (.t 40) }])
 (.seq (.region [{ dst := some 41, op := .move (.t 9) },
  { dst := some 42, op := .move (.t 1) },
  { dst := some 43, op := .slice 5 (.t 41) (some (.t 42)) none none },
  { dst := some 44, op := .move (.t 2) },
  { dst := some 45, op := .copy 5 (.t 43) (.t 44) }])
 (.seq (.dregion [{ dst := some 46, op := .move (.t 9) },
  { dst := some 47, op := .move (.t 1) },
  { dst := some 48, op := .move (.t 7) },
  { dst := some 49, op := .bin .add (.t 47) (.t 48) },
  { dst := some 50, op := .slice 5 (.t 46) (some (.t 49)) none none },
  { dst := some 51, op := .move (.t 0) },
  { dst := some 52, op := .move (.t 1) },
  { dst := some 53, op := .slice 5 (.t 51) (some (.t 52)) none none },
  { dst := some 54, op := .copy 5 (.t 50) (.t 53) }])
 (.seq (.region [{ dst := some 55, op := .move (.t 9) },
  { dst := some 6, op := .move (.t 55) }])
 .ret)))) .skip))
 (.seq (.region [{ dst := some 56, op := .move (.t 0) },
  { dst := some 57, op := .move (.t 8) },
  { dst := some 58, op := .move (.t 7) },
  { dst := some 59, op := .bin .add (.t 57) (.t 58) },
  { dst := some 60, op := .slice 5 (.t 56) none (some (.t 59)) none },
  { dst := some 0, op := .move (.t 60) }])
 (.seq (.seq (.region [{ dst := some 61, op := .move (.t 2) },
  { dst := some 62, op := .move (.t 0) },
  { dst := some 63, op := .move (.t 1) },
  { dst := some 64, op := .move (.t 7) },
  { dst := some 65, op := .bin .add (.t 63) (.t 64) },
  { dst := some 66, op := .slice 5 (.t 62) (some (.t 65)) none none },
  { dst := some 67, op := .call 346 [(.t 61), (.t 66)] },
  { dst := some 68, op := .un .not (.t 67) }])
 (.cond (.t 68) (.seq (.dregion [{ dst := some 69, op := .move (.t 0) },
  { dst := some 70, op := .move (.t 1) },
  { dst := some 71, op := .move (.t 7) },
  { dst := some 72, op := .bin .add (.t 70) (.t 71) },
  { dst := some 73, op := .slice 5 (.t 69) (some (.t 72)) none none },
  { dst := some 74, op := .move (.t 0) },
  { dst := some 75, op := .move (.t 1) },
  { dst := some 76, op := .slice 5 (.t 74) (some (.t 75)) none none },
  { dst := some 77, op := .copy 5 (.t 73) (.t 76) }])
 (.seq (.region [{ dst := some 78, op := .move (.t 0) },
  { dst := some 79, op := .move (.t 1) },
  { dst := some 80, op := .slice 5 (.t 78) (some (.t 79)) none none },
  { dst := some 81, op := .move (.t 2) },
  { dst := some 82, op := .copy 5 (.t 80) (.t 81) }])
 (.seq (.region [{ dst := some 83, op := .move (.t 0) },
  { dst := some 6, op := .move (.t 83) }])
 .ret))) .skip))
 (.seq (.region [{ dst := some 84, op := .move (.t 0) },
  { dst := some 85, op := .move (.t 8) },
  { dst := some 86, op := .slice 5 (.t 84) (some (.t 85)) none none },
  { dst := some 87, op := .move (.t 2) },
  { dst := some 88, op := .copy 5 (.t 86) (.t 87) }])
 (.seq (.region [{ dst := some 89, op := .move (.t 0) },
  { dst := some 90, op := .move (.t 1) },
  { dst := some 91, op := .slice 5 (.t 89) (some (.t 90)) none none },
  { dst := some 92, op := .move (.t 7) },
  { dst := some 93, op := .call 347 [(.t 91), (.t 92)] }])
 (.seq (.region [{ dst := some 94, op := .move (.t 0) },
  { dst := some 6, op := .move (.t 94) }])
 .ret))))))))))))⟩
/-- slices.rotateLeft[arras.api.Look] -/
def F315 : AFun := ⟨false, 14, [], (.seq (.region [{ dst := some 4, op := .move (.t 0) },
  { dst := some 5, op := .move (.t 1) },
  { dst := some 6, op := .slice 3 (.t 4) none (some (.t 5)) none },
  { dst := some 7, op := .call 348 [(.t 6)] }])
 (.seq (.region [{ dst := some 8, op := .move (.t 0) },
  { dst := some 9, op := .move (.t 1) },
  { dst := some 10, op := .slice 3 (.t 8) (some (.t 9)) none none },
  { dst := some 11, op := .call 348 [(.t 10)] }])
 (.region [{ dst := some 12, op := .move (.t 0) },
  { dst := some 13, op := .call 348 [(.t 12)] }])))⟩
/-- slices.BinarySearchFunc[[]arras.api.Reg,arras.api.Reg,int] -/
def F316 : AFun := ⟨true, 49, [.t 6, .t 7], (.seq (.region [{ dst := some 6, op := .move (.c (.v (.int .i64 0))) },
  { dst := some 7, op := .move (.c (.v (.bool false))) }])
 (.seq (.region [{ dst := some 12, op := .move (.t 0) },
  { dst := some 13, op := .len (.t 12) },
  { dst := some 8, op := .move (.t 13) }])
 (.seq (.region [{ dst := some 14, op := .move (.t 8) },
  { dst := some 9, op := .move (.c (.v (.int .i64 0))) },
  { dst := some 10, op := .move (.t 14) }])
 (.seq (.block 0 (.loop (.seq (.seq (.region [{ dst := some 15, op := .move (.t 9) },
  { dst := some 16, op := .move (.t 10) },
  { dst := some 17, op := .bin .lss (.t 15) (.t 16) }])
 (.cond (.t 17) .skip (.exit 0)))
 (.block 1 (.seq (.region [{ dst := some 18, op := .move (.t 9) },
  { dst := some 19, op := .move (.t 10) },
  { dst := some 20, op := .bin .add (.t 18) (.t 19) },
  { dst := some 21, op := .conv .u64 (.t 20) },
  { dst := some 22, op := .bin .shr (.t 21) (.c (.v (.int .u64 1))) },
  { dst := some 23, op := .conv .i64 (.t 22) },
  { dst := some 11, op := .move (.t 23) }])
 (.seq (.region [{ dst := some 24, op := .move (.t 2) },
  { dst := some 25, op := .move (.t 0) },
  { dst := some 26, op := .move (.t 11) },
  { dst := some 27, op := .iaddr 4 (.t 25) (.t 26) },
  { dst := some 28, op := .load true 4 (.t 27) },
  { dst := some 29, op := .move (.t 1) },
  { dst := some 30, op := .callv (.t 24) [(.t 28), (.t 29)] },
  { dst := some 31, op := .bin .lss (.t 30) (.c (.v (.int .i64 0))) }])
 (.cond (.t 31) (.region [{ dst := some 32, op := .move (.t 11) },
  { dst := some 33, op := .bin .add (.t 32) (.c (.v (.int .i64 1))) },
  { dst := some 9, op := .move (.t 33) }]) (.region [{ dst := some 34, op := .move (.t 11) },
  { dst := some 10, op := .move (.t 34) }]))))))))
 (.seq (.region [{ dst := some 35, op := .move (.t 9) },
  { dst := some 36, op := .move (.t 9) },
  { dst := some 37, op := .move (.t 8) },
  { dst := some 38, op := .bin .lss (.t 36) (.t 37) },
  { dst := some 39, op := .move (.t 38) },
  { dst := some 40, op := .move (.t 2), guard := some (39, true) },
  { dst := some 41, op := .move (.t 0), guard := some (39, true) },
  { dst := some 42, op := .move (.t 9), guard := some (39, true) },
  { dst := some 43, op := .iaddr 4 (.t 41) (.t 42), guard := some (39, true) },
  { dst := some 44, op := .load true 4 (.t 43), guard := some (39, true) },
  { dst := some 45, op := .move (.t 1), guard := some (39, true) },
  { dst := some 46, op := .callv (.t 40) [(.t 44), (.t 45)], guard := some (39, true) },
  { dst := some 47, op := .bin .eql (.t 46) (.c (.v (.int .i64 0))), guard := some (39, true) },
  { dst := some 48, op := .pick (.t 39) (.t 47) (.c (.v (.bool false))) },
  { dst := some 6, op := .move (.t 35) },
  { dst := some 7, op := .move (.t 48) }])
 .ret)))))⟩
/-- arras.reg.find$1 -/
def F317 : AFun := ⟨true, 9, [.t 4], (.seq (.region [{ dst := some 2, op := .box 224 4 (.t 0) },
  { dst := some 4, op := .move (.c (.v (.int .i64 0))) }])
 (.seq (.region [{ dst := some 5, op := .faddr 0 (.t 2) },
  { dst := some 6, op := .load false 1 (.t 5) },
  { dst := some 7, op := .move (.t 1) },
  { dst := some 8, op := .call 227 [(.t 6), (.t 7)] },
  { dst := some 4, op := .move (.t 8) }])
 .ret))⟩
/-- slices.rotateRight[arras.api.Reg] -/
def F319 : AFun := ⟨false, 10, [], (.region [{ dst := some 4, op := .move (.t 0) },
  { dst := some 5, op := .move (.t 0) },
  { dst := some 6, op := .len (.t 5) },
  { dst := some 7, op := .move (.t 1) },
  { dst := some 8, op := .bin .sub (.t 6) (.t 7) },
  { dst := some 9, op := .call 349 [(.t 4), (.t 8)] }])⟩
/-- slices.rotateLeft[arras.api.Op] -/
def F320 : AFun := ⟨false, 14, [], (.seq (.region [{ dst := some 4, op := .move (.t 0) },
  { dst := some 5, op := .move (.t 1) },
  { dst := some 6, op := .slice 12 (.t 4) none (some (.t 5)) none },
  { dst := some 7, op := .call 350 [(.t 6)] }])
 (.seq (.region [{ dst := some 8, op := .move (.t 0) },
  { dst := some 9, op := .move (.t 1) },
  { dst := some 10, op := .slice 12 (.t 8) (some (.t 9)) none none },
  { dst := some 11, op := .call 350 [(.t 10)] }])
 (.region [{ dst := some 12, op := .move (.t 0) },
  { dst := some 13, op := .call 350 [(.t 12)] }])))⟩
/-- slices.insertionSortCmpFunc[arras.api.Node] -/
def F321 : AFun := ⟨false, 53, [], (.seq (.region [{ dst := some 10, op := .move (.t 1) },
  { dst := some 11, op := .bin .add (.t 10) (.c (.v (.int .i64 1))) },
  { dst := some 8, op := .move (.t 11) }])
 (.block 0 (.loop (.seq (.seq (.region [{ dst := some 12, op := .move (.t 8) },
  { dst := some 13, op := .move (.t 2) },
  { dst := some 14, op := .bin .lss (.t 12) (.t 13) }])
 (.cond (.t 14) .skip (.exit 0)))
 (.seq (.block 1 (.seq (.region [{ dst := some 17, op := .move (.t 8) },
  { dst := some 9, op := .move (.t 17) }])
 (.block 2 (.loop (.seq (.seq (.dregion [{ dst := some 18, op := .move (.t 9) },
  { dst := some 19, op := .move (.t 1) },
  { dst := some 20, op := .bin .gtr (.t 18) (.t 19) },
  { dst := some 21, op := .move (.t 20) },
  { dst := some 22, op := .move (.t 3), guard := some (21, true) },
  { dst := some 23, op := .move (.t 0), guard := some (21, true) },
  { dst := some 24, op := .move (.t 9), guard := some (21, true) },
  { dst := some 25, op := .iaddr 5 (.t 23) (.t 24), guard := some (21, true) },
  { dst := some 26, op := .load true 5 (.t 25), guard := some (21, true) },
  { dst := some 27, op := .move (.t 0), guard := some (21, true) },
  { dst := some 28, op := .move (.t 9), guard := some (21, true) },
  { dst := some 29, op := .bin .sub (.t 28) (.c (.v (.int .i64 1))), guard := some (21, true) },
  { dst := some 30, op := .iaddr 5 (.t 27) (.t 29), guard := some (21, true) },
  { dst := some 31, op := .load true 5 (.t 30), guard := some (21, true) },
  { dst := some 32, op := .callv (.t 22) [(.t 26), (.t 31)], guard := some (21, true) },
  { dst := some 33, op := .bin .lss (.t 32) (.c (.v (.int .i64 0))), guard := some (21, true) },
  { dst := some 34, op := .pick (.t 21) (.t 33) (.c (.v (.bool false))) }])
 (.cond (.t 34) .skip (.exit 2)))
 (.seq (.block 3 (.dregion [{ dst := some 37, op := .move (.t 0) },
  { dst := some 38, op := .move (.t 9) },
  { dst := some 39, op := .move (.t 0) },
  { dst := some 40, op := .move (.t 9) },
  { dst := some 41, op := .bin .sub (.t 40) (.c (.v (.int .i64 1))) },
  { dst := some 42, op := .move (.t 0) },
  { dst := some 43, op := .move (.t 9) },
  { dst := some 44, op := .bin .sub (.t 43) (.c (.v (.int .i64 1))) },
  { dst := some 45, op := .iaddr 5 (.t 42) (.t 44) },
  { dst := some 46, op := .load true 5 (.t 45) },
  { dst := some 47, op := .move (.t 0) },
  { dst := some 48, op := .move (.t 9) },
  { dst := some 49, op := .iaddr 5 (.t 47) (.t 48) },
  { dst := some 50, op := .load true 5 (.t 49) },
  { dst := some 51, op := .iaddr 5 (.t 37) (.t 38) },
  { dst := none, op := .store 5 (.t 51) (.t 46) },
  { dst := some 52, op := .iaddr 5 (.t 39) (.t 41) },
  { dst := none, op := .store 5 (.t 52) (.t 50) }]))
 (.region [{ dst := some 35, op := .move (.t 9) },
  { dst := some 36, op := .bin .sub (.t 35) (.c (.v (.int .i64 1))) },
  { dst := some 9, op := .move (.t 36) }])))))))
 (.region [{ dst := some 15, op := .move (.t 8) },
  { dst := some 16, op := .bin .add (.t 15) (.c (.v (.int .i64 1))) },
  { dst := some 8, op := .move (.t 16) }]))))))⟩
/-- slices.heapSortCmpFunc[arras.api.Node] -/
def F322 : AFun := ⟨false, 60, [], (.seq (.region [{ dst := some 13, op := .move (.t 1) },
  { dst := some 8, op := .move (.t 13) }])
 (.seq (.region [{ dst := some 9, op := .move (.c (.v (.int .i64 0))) }])
 (.seq (.region [{ dst := some 14, op := .move (.t 2) },
  { dst := some 15, op := .move (.t 1) },
  { dst := some 16, op := .bin .sub (.t 14) (.t 15) },
  { dst := some 10, op := .move (.t 16) }])
 (.seq (.seq (.region [{ dst := some 17, op := .move (.t 10) },
  { dst := some 18, op := .bin .sub (.t 17) (.c (.v (.int .i64 1))) },
  { dst := some 19, op := .bin .quo (.t 18) (.c (.v (.int .i64 2))) },
  { dst := some 11, op := .move (.t 19) }])
 (.block 0 (.loop (.seq (.seq (.region [{ dst := some 20, op := .move (.t 11) },
  { dst := some 21, op := .bin .geq (.t 20) (.c (.v (.int .i64 0))) }])
 (.cond (.t 21) .skip (.exit 0)))
 (.seq (.block 1 (.region [{ dst := some 24, op := .move (.t 0) },
  { dst := some 25, op := .move (.t 11) },
  { dst := some 26, op := .move (.t 10) },
  { dst := some 27, op := .move (.t 8) },
  { dst := some 28, op := .move (.t 3) },
  { dst := some 29, op := .call 351 [(.t 24), (.t 25), (.t 26), (.t 27), (.t 28)] }]))
 (.region [{ dst := some 22, op := .move (.t 11) },
  { dst := some 23, op := .bin .sub (.t 22) (.c (.v (.int .i64 1))) },
  { dst := some 11, op := .move (.t 23) }]))))))
 (.seq (.region [{ dst := some 30, op := .move (.t 10) },
  { dst := some 31, op := .bin .sub (.t 30) (.c (.v (.int .i64 1))) },
  { dst := some 12, op := .move (.t 31) }])
 (.block 2 (.loop (.seq (.seq (.region [{ dst := some 32, op := .move (.t 12) },
  { dst := some 33, op := .bin .geq (.t 32) (.c (.v (.int .i64 0))) }])
 (.cond (.t 33) .skip (.exit 2)))
 (.seq (.block 3 (.seq (.dregion [{ dst := some 36, op := .move (.t 0) },
  { dst := some 37, op := .move (.t 8) },
  { dst := some 38, op := .move (.t 0) },
  { dst := some 39, op := .move (.t 8) },
  { dst := some 40, op := .move (.t 12) },
  { dst := some 41, op := .bin .add (.t 39) (.t 40) },
  { dst := some 42, op := .move (.t 0) },
  { dst := some 43, op := .move (.t 8) },
  { dst := some 44, op := .move (.t 12) },
  { dst := some 45, op := .bin .add (.t 43) (.t 44) },
  { dst := some 46, op := .iaddr 5 (.t 42) (.t 45) },
  { dst := some 47, op := .load true 5 (.t 46) },
  { dst := some 48, op := .move (.t 0) },
  { dst := some 49, op := .move (.t 8) },
  { dst := some 50, op := .iaddr 5 (.t 48) (.t 49) },
  { dst := some 51, op := .load true 5 (.t 50) },
  { dst := some 52, op := .iaddr 5 (.t 36) (.t 37) },
  { dst := none, op := .store 5 (.t 52) (.t 47) },
  { dst := some 53, op := .iaddr 5 (.t 38) (.t 41) },
  { dst := none, op := .store 5 (.t 53) (.t 51) }])
 (.region [{ dst := some 54, op := .move (.t 0) },
  { dst := some 55, op := .move (.t 9) },
  { dst := some 56, op := .move (.t 12) },
  { dst := some 57, op := .move (.t 8) },
  { dst := some 58, op := .move (.t 3) },
  { dst := some 59, op := .call 351 [(.t 54), (.t 55), (.t 56), (.t 57), (.t 58)] }])))
 (.region [{ dst := some 34, op := .move (.t 12) },
  { dst := some 35, op := .bin .sub (.t 34) (.c (.v (.int .i64 1))) },
  { dst := some 12, op := .move (.t 35) }]))))))))))⟩
/-- slices.breakPatternsCmpFunc[arras.api.Node] -/
def F323 : AFun := ⟨false, 67, [], (.seq (.region [{ dst := some 13, op := .move (.t 2) },
  { dst := some 14, op := .move (.t 1) },
  { dst := some 15, op := .bin .sub (.t 13) (.t 14) },
  { dst := some 8, op := .move (.t 15) }])
 (.seq (.region [{ dst := some 16, op := .move (.t 8) },
  { dst := some 17, op := .bin .geq (.t 16) (.c (.v (.int .i64 8))) }])
 (.cond (.t 17) (.seq (.region [{ dst := some 18, op := .move (.t 8) },
  { dst := some 19, op := .conv .u64 (.t 18) },
  { dst := some 9, op := .alloc 425 [.v (.int .u64 0)] },
  { dst := none, op := .store 1 (.t 9) (.t 19) }])
 (.seq (.region [{ dst := some 20, op := .move (.t 8) },
  { dst := some 21, op := .call 352 [(.t 20)] },
  { dst := some 10, op := .move (.t 21) }])
 (.seq (.region [{ dst := some 22, op := .move (.t 1) },
  { dst := some 23, op := .move (.t 8) },
  { dst := some 24, op := .bin .quo (.t 23) (.c (.v (.int .i64 4))) },
  { dst := some 25, op := .bin .mul (.t 24) (.c (.v (.int .i64 2))) },
  { dst := some 26, op := .bin .add (.t 22) (.t 25) },
  { dst := some 27, op := .bin .sub (.t 26) (.c (.v (.int .i64 1))) },
  { dst := some 11, op := .move (.t 27) }])
 (.block 0 (.loop (.seq (.seq (.region [{ dst := some 28, op := .move (.t 11) },
  { dst := some 29, op := .move (.t 1) },
  { dst := some 30, op := .move (.t 8) },
  { dst := some 31, op := .bin .quo (.t 30) (.c (.v (.int .i64 4))) },
  { dst := some 32, op := .bin .mul (.t 31) (.c (.v (.int .i64 2))) },
  { dst := some 33, op := .bin .add (.t 29) (.t 32) },
  { dst := some 34, op := .bin .add (.t 33) (.c (.v (.int .i64 1))) },
  { dst := some 35, op := .bin .leq (.t 28) (.t 34) }])
 (.cond (.t 35) .skip (.exit 0)))
 (.seq (.block 1 (.seq (.region [{ dst := some 38, op := .call 353 [(.t 9)] },
  { dst := some 39, op := .move (.t 10) },
  { dst := some 40, op := .bin .sub (.t 39) (.c (.v (.int .u64 1))) },
  { dst := some 41, op := .bin .and (.t 38) (.t 40) },
  { dst := some 42, op := .conv .i64 (.t 41) },
  { dst := some 12, op := .move (.t 42) }])
 (.seq (.seq (.region [{ dst := some 43, op := .move (.t 12) },
  { dst := some 44, op := .move (.t 8) },
  { dst := some 45, op := .bin .geq (.t 43) (.t 44) }])
 (.cond (.t 45) (.region [{ dst := some 46, op := .move (.t 12) },
  { dst := some 47, op := .move (.t 8) },
  { dst := some 48, op := .bin .sub (.t 46) (.t 47) },
  { dst := some 12, op := .move (.t 48) }]) .skip))
 (.dregion [{ dst := some 49, op := .move (.t 0) },
  { dst := some 50, op := .move (.t 11) },
  { dst := some 51, op := .move (.t 0) },
  { dst := some 52, op := .move (.t 1) },
  { dst := some 53, op := .move (.t 12) },
  { dst := some 54, op := .bin .add (.t 52) (.t 53) },
  { dst := some 55, op := .move (.t 0) },
  { dst := some 56, op := .move (.t 1) },
  { dst := some 57, op := .move (.t 12) },
  { dst := some 58, op := .bin .add (.t 56) (.t 57) },
  { dst := some 59, op := .iaddr 5 (.t 55) (.t 58) },
  { dst := some 60, op := .load true 5 (.t 59) },
  { dst := some 61, op := .move (.t 0) },
  { dst := some 62, op := .move (.t 11) },
  { dst := some 63, op := .iaddr 5 (.t 61) (.t 62) },
  { dst := some 64, op := .load true 5 (.t 63) },
  { dst := some 65, op := .iaddr 5 (.t 49) (.t 50) },
  { dst := none, op := .store 5 (.t 65) (.t 60) },
  { dst := some 66, op := .iaddr 5 (.t 51) (.t 54) },
  { dst := none, op := .store 5 (.t 66) (.t 64) }]))))
 (.region [{ dst := some 36, op := .move (.t 11) },
  { dst := some 37, op := .bin .add (.t 36) (.c (.v (.int .i64 1))) },
  { dst := some 11, op := .move (.t 37) }])))))))) .skip)))⟩
/-- slices.choosePivotCmpFunc[arras.api.Node] -/
def F324 : AFun := ⟨false, 63, [.t 8, .t 9], (.seq (.region [{ dst := some 8, op := .move (.c (.v (.int .i64 0))) },
  { dst := some 9, op := .move (.c (.v (.int .i64 0))) }])
 (.seq (.region [{ dst := some 15, op := .move (.t 2) },
  { dst := some 16, op := .move (.t 1) },
  { dst := some 17, op := .bin .sub (.t 15) (.t 16) },
  { dst := some 10, op := .move (.t 17) }])
 (.seq (.region [{ dst := some 11, op := .alloc 3 [.v (.int .i64 0)] }])
 (.seq (.region [{ dst := some 18, op := .move (.t 1) },
  { dst := some 19, op := .move (.t 10) },
  { dst := some 20, op := .bin .quo (.t 19) (.c (.v (.int .i64 4))) },
  { dst := some 21, op := .bin .mul (.t 20) (.c (.v (.int .i64 1))) },
  { dst := some 22, op := .bin .add (.t 18) (.t 21) },
  { dst := some 12, op := .move (.t 22) }])
 (.seq (.region [{ dst := some 23, op := .move (.t 1) },
  { dst := some 24, op := .move (.t 10) },
  { dst := some 25, op := .bin .quo (.t 24) (.c (.v (.int .i64 4))) },
  { dst := some 26, op := .bin .mul (.t 25) (.c (.v (.int .i64 2))) },
  { dst := some 27, op := .bin .add (.t 23) (.t 26) },
  { dst := some 13, op := .move (.t 27) }])
 (.seq (.region [{ dst := some 28, op := .move (.t 1) },
  { dst := some 29, op := .move (.t 10) },
  { dst := some 30, op := .bin .quo (.t 29) (.c (.v (.int .i64 4))) },
  { dst := some 31, op := .bin .mul (.t 30) (.c (.v (.int .i64 3))) },
  { dst := some 32, op := .bin .add (.t 28) (.t 31) },
  { dst := some 14, op := .move (.t 32) }])
 (.seq (.seq (.region [{ dst := some 33, op := .move (.t 10) },
  { dst := some 34, op := .bin .geq (.t 33) (.c (.v (.int .i64 8))) }])
 (.cond (.t 34) (.seq (.seq (.region [{ dst := some 35, op := .move (.t 10) },
  { dst := some 36, op := .bin .geq (.t 35) (.c (.v (.int .i64 50))) }])
 (.cond (.t 36) (.seq (.region [{ dst := some 37, op := .move (.t 0) },
  { dst := some 38, op := .move (.t 12) },
  { dst := some 39, op := .move (.t 3) },
  { dst := some 40, op := .call 354 [(.t 37), (.t 38), (.t 11), (.t 39)] },
  { dst := some 12, op := .move (.t 40) }])
 (.seq (.region [{ dst := some 41, op := .move (.t 0) },
  { dst := some 42, op := .move (.t 13) },
  { dst := some 43, op := .move (.t 3) },
  { dst := some 44, op := .call 354 [(.t 41), (.t 42), (.t 11), (.t 43)] },
  { dst := some 13, op := .move (.t 44) }])
 (.region [{ dst := some 45, op := .move (.t 0) },
  { dst := some 46, op := .move (.t 14) },
  { dst := some 47, op := .move (.t 3) },
  { dst := some 48, op := .call 354 [(.t 45), (.t 46), (.t 11), (.t 47)] },
  { dst := some 14, op := .move (.t 48) }]))) .skip))
 (.region [{ dst := some 49, op := .move (.t 0) },
  { dst := some 50, op := .move (.t 12) },
  { dst := some 51, op := .move (.t 13) },
  { dst := some 52, op := .move (.t 14) },
  { dst := some 53, op := .move (.t 3) },
  { dst := some 54, op := .call 355 [(.t 49), (.t 50), (.t 51), (.t 52), (.t 11), (.t 53)] },
  { dst := some 13, op := .move (.t 54) }])) .skip))
 (.seq (.region [{ dst := some 55, op := .load false 1 (.t 11) }])
 (.block 0 (.seq (.region [{ dst := some 58, op := .bin .eql (.t 55) (.c (.v (.int .i64 0))) },
  { dst := some 57, op := .move (.t 58) }])
 (.cond (.t 57) (.seq (.region [{ dst := some 59, op := .move (.t 13) },
  { dst := some 8, op := .move (.t 59) },
  { dst := some 9, op := .move (.c (.v (.int .i64 1))) }])
 .ret) (.seq (.region [{ dst := some 61, op := .bin .eql (.t 55) (.c (.v (.int .i64 12))) },
  { dst := some 60, op := .move (.t 61) }])
 (.cond (.t 60) (.seq (.region [{ dst := some 62, op := .move (.t 13) },
  { dst := some 8, op := .move (.t 62) },
  { dst := some 9, op := .move (.c (.v (.int .i64 2))) }])
 .ret) (.seq (.region [{ dst := some 56, op := .move (.t 13) },
  { dst := some 8, op := .move (.t 56) },
  { dst := some 9, op := .move (.c (.v (.int .i64 0))) }])
 .ret))))))))))))))⟩
/-- slices.reverseRangeCmpFunc[arras.api.Node] -/
def F325 : AFun := ⟨false, 34, [], (.seq (.region [{ dst := some 10, op := .move (.t 1) },
  { dst := some 8, op := .move (.t 10) }])
 (.seq (.region [{ dst := some 11, op := .move (.t 2) },
  { dst := some 12, op := .bin .sub (.t 11) (.c (.v (.int .i64 1))) },
  { dst := some 9, op := .move (.t 12) }])
 (.block 0 (.loop (.seq (.seq (.region [{ dst := some 13, op := .move (.t 8) },
  { dst := some 14, op := .move (.t 9) },
  { dst := some 15, op := .bin .lss (.t 13) (.t 14) }])
 (.cond (.t 15) .skip (.exit 0)))
 (.block 1 (.seq (.dregion [{ dst := some 16, op := .move (.t 0) },
  { dst := some 17, op := .move (.t 8) },
  { dst := some 18, op := .move (.t 0) },
  { dst := some 19, op := .move (.t 9) },
  { dst := some 20, op := .move (.t 0) },
  { dst := some 21, op := .move (.t 9) },
  { dst := some 22, op := .iaddr 5 (.t 20) (.t 21) },
  { dst := some 23, op := .load true 5 (.t 22) },
  { dst := some 24, op := .move (.t 0) },
  { dst := some 25, op := .move (.t 8) },
  { dst := some 26, op := .iaddr 5 (.t 24) (.t 25) },
  { dst := some 27, op := .load true 5 (.t 26) },
  { dst := some 28, op := .iaddr 5 (.t 16) (.t 17) },
  { dst := none, op := .store 5 (.t 28) (.t 23) },
  { dst := some 29, op := .iaddr 5 (.t 18) (.t 19) },
  { dst := none, op := .store 5 (.t 29) (.t 27) }])
 (.seq (.region [{ dst := some 30, op := .move (.t 8) },
  { dst := some 31, op := .bin .add (.t 30) (.c (.v (.int .i64 1))) },
  { dst := some 8, op := .move (.t 31) }])
 (.region [{ dst := some 32, op := .move (.t 9) },
  { dst := some 33, op := .bin .sub (.t 32) (.c (.v (.int .i64 1))) },
  { dst := some 9, op := .move (.t 33) }])))))))))⟩
/-- slices.partialInsertionSortCmpFunc[arras.api.Node] -/
def F326 : AFun := ⟨false, 141, [.t 8], (.seq (.region [{ dst := some 8, op := .move (.c (.v (.bool false))) }])
 (.seq (.region [{ dst := some 13, op := .move (.t 1) },
  { dst := some 14, op := .bin .add (.t 13) (.c (.v (.int .i64 1))) },
  { dst := some 9, op := .move (.t 14) }])
 (.seq (.seq (.region [{ dst := some 10, op := .move (.c (.v (.int .i64 0))) }])
 (.block 0 (.loop (.seq (.seq (.region [{ dst := some 15, op := .move (.t 10) },
  { dst := some 16, op := .bin .lss (.t 15) (.c (.v (.int .i64 5))) }])
 (.cond (.t 16) .skip (.exit 0)))
 (.seq (.block 1 (.seq (.block 2 (.loop (.seq (.seq (.dregion [{ dst := some 19, op := .move (.t 9) },
  { dst := some 20, op := .move (.t 2) },
  { dst := some 21, op := .bin .lss (.t 19) (.t 20) },
  { dst := some 22, op := .move (.t 21) },
  { dst := some 23, op := .move (.t 3), guard := some (22, true) },
  { dst := some 24, op := .move (.t 0), guard := some (22, true) },
  { dst := some 25, op := .move (.t 9), guard := some (22, true) },
  { dst := some 26, op := .iaddr 5 (.t 24) (.t 25), guard := some (22, true) },
  { dst := some 27, op := .load true 5 (.t 26), guard := some (22, true) },
  { dst := some 28, op := .move (.t 0), guard := some (22, true) },
  { dst := some 29, op := .move (.t 9), guard := some (22, true) },
  { dst := some 30, op := .bin .sub (.t 29) (.c (.v (.int .i64 1))), guard := some (22, true) },
  { dst := some 31, op := .iaddr 5 (.t 28) (.t 30), guard := some (22, true) },
  { dst := some 32, op := .load true 5 (.t 31), guard := some (22, true) },
  { dst := some 33, op := .callv (.t 23) [(.t 27), (.t 32)], guard := some (22, true) },
  { dst := some 34, op := .bin .lss (.t 33) (.c (.v (.int .i64 0))), guard := some (22, true) },
  { dst := some 35, op := .un .not (.t 34), guard := some (22, true) },
  { dst := some 36, op := .pick (.t 22) (.t 35) (.c (.v (.bool false))) }])
 (.cond (.t 36) .skip (.exit 2)))
 (.block 3 (.region [{ dst := some 37, op := .move (.t 9) },
  { dst := some 38, op := .bin .add (.t 37) (.c (.v (.int .i64 1))) },
  { dst := some 9, op := .move (.t 38) }])))))
 (.seq (.seq (.region [{ dst := some 39, op := .move (.t 9) },
  { dst := some 40, op := .move (.t 2) },
  { dst := some 41, op := .bin .eql (.t 39) (.t 40) }])
 (.cond (.t 41) (.seq (.region [{ dst := some 8, op := .move (.c (.v (.bool true))) }])
 .ret) .skip))
 (.seq (.seq (.region [{ dst := some 42, op := .move (.t 2) },
  { dst := some 43, op := .move (.t 1) },
  { dst := some 44, op := .bin .sub (.t 42) (.t 43) },
  { dst := some 45, op := .bin .lss (.t 44) (.c (.v (.int .i64 50))) }])
 (.cond (.t 45) (.seq (.region [{ dst := some 8, op := .move (.c (.v (.bool false))) }])
 .ret) .skip))
 (.seq (.dregion [{ dst := some 46, op := .move (.t 0) },
  { dst := some 47, op := .move (.t 9) },
  { dst := some 48, op := .move (.t 0) },
  { dst := some 49, op := .move (.t 9) },
  { dst := some 50, op := .bin .sub (.t 49) (.c (.v (.int .i64 1))) },
  { dst := some 51, op := .move (.t 0) },
  { dst := some 52, op := .move (.t 9) },
  { dst := some 53, op := .bin .sub (.t 52) (.c (.v (.int .i64 1))) },
  { dst := some 54, op := .iaddr 5 (.t 51) (.t 53) },
  { dst := some 55, op := .load true 5 (.t 54) },
  { dst := some 56, op := .move (.t 0) },
  { dst := some 57, op := .move (.t 9) },
  { dst := some 58, op := .iaddr 5 (.t 56) (.t 57) },
  { dst := some 59, op := .load true 5 (.t 58) },
  { dst := some 60, op := .iaddr 5 (.t 46) (.t 47) },
  { dst := none, op := .store 5 (.t 60) (.t 55) },
  { dst := some 61, op := .iaddr 5 (.t 48) (.t 50) },
  { dst := none, op := .store 5 (.t 61) (.t 59) }])
 (.seq (.seq (.region [{ dst := some 62, op := .move (.t 9) },
  { dst := some 63, op := .move (.t 1) },
  { dst := some 64, op := .bin .sub (.t 62) (.t 63) },
  { dst := some 65, op := .bin .geq (.t 64) (.c (.v (.int .i64 2))) }])
 (.cond (.t 65) (.seq (.region [{ dst := some 66, op := .move (.t 9) },
  { dst := some 67, op := .bin .sub (.t 66) (.c (.v (.int .i64 1))) },
  { dst := some 11, op := .move (.t 67) }])
 (.block 4 (.loop (.seq (.seq (.region [{ dst := some 68, op := .move (.t 11) },
  { dst := some 69, op := .bin .geq (.t 68) (.c (.v (.int .i64 1))) }])
 (.cond (.t 69) .skip (.exit 4)))
 (.seq (.block 5 (.seq (.seq (.dregion [{ dst := some 72, op := .move (.t 3) },
  { dst := some 73, op := .move (.t 0) },
  { dst := some 74, op := .move (.t 11) },
  { dst := some 75, op := .iaddr 5 (.t 73) (.t 74) },
  { dst := some 76, op := .load true 5 (.t 75) },
  { dst := some 77, op := .move (.t 0) },
  { dst := some 78, op := .move (.t 11) },
  { dst := some 79, op := .bin .sub (.t 78) (.c (.v (.int .i64 1))) },
  { dst := some 80, op := .iaddr 5 (.t 77) (.t 79) },
  { dst := some 81, op := .load true 5 (.t 80) },
  { dst := some 82, op := .callv (.t 72) [(.t 76), (.t 81)] },
  { dst := some 83, op := .bin .lss (.t 82) (.c (.v (.int .i64 0))) },
  { dst := some 84, op := .un .not (.t 83) }])
 (.cond (.t 84) (.exit 4) .skip))
 (.dregion [{ dst := some 85, op := .move (.t 0) },
  { dst := some 86, op := .move (.t 11) },
  { dst := some 87, op := .move (.t 0) },
  { dst := some 88, op := .move (.t 11) },
  { dst := some 89, op := .bin .sub (.t 88) (.c (.v (.int .i64 1))) },
  { dst := some 90, op := .move (.t 0) },
  { dst := some 91, op := .move (.t 11) },
  { dst := some 92, op := .bin .sub (.t 91) (.c (.v (.int .i64 1))) },
  { dst := some 93, op := .iaddr 5 (.t 90) (.t 92) },
  { dst := some 94, op := .load true 5 (.t 93) },
  { dst := some 95, op := .move (.t 0) },
  { dst := some 96, op := .move (.t 11) },
  { dst := some 97, op := .iaddr 5 (.t 95) (.t 96) },
  { dst := some 98, op := .load true 5 (.t 97) },
  { dst := some 99, op := .iaddr 5 (.t 85) (.t 86) },
  { dst := none, op := .store 5 (.t 99) (.t 94) },
  { dst := some 100, op := .iaddr 5 (.t 87) (.t 89) },
  { dst := none, op := .store 5 (.t 100) (.t 98) }])))
 (.region [{ dst := some 70, op := .move (.t 11) },
  { dst := some 71, op := .bin .sub (.t 70) (.c (.v (.int .i64 1))) },
  { dst := some 11, op := .move (.t 71) }])))))) .skip))
 (.seq (.region [{ dst := some 101, op := .move (.t 2) },
  { dst := some 102, op := .move (.t 9) },
  { dst := some 103, op := .bin .sub (.t 101) (.t 102) },
  { dst := some 104, op := .bin .geq (.t 103) (.c (.v (.int .i64 2))) }])
 (.cond (.t 104) (.seq (.region [{ dst := some 105, op := .move (.t 9) },
  { dst := some 106, op := .bin .add (.t 105) (.c (.v (.int .i64 1))) },
  { dst := some 12, op := .move (.t 106) }])
 (.block 6 (.loop (.seq (.seq (.region [{ dst := some 107, op := .move (.t 12) },
  { dst := some 108, op := .move (.t 2) },
  { dst := some 109, op := .bin .lss (.t 107) (.t 108) }])
 (.cond (.t 109) .skip (.exit 6)))
 (.seq (.block 7 (.seq (.seq (.dregion [{ dst := some 112, op := .move (.t 3) },
  { dst := some 113, op := .move (.t 0) },
  { dst := some 114, op := .move (.t 12) },
  { dst := some 115, op := .iaddr 5 (.t 113) (.t 114) },
  { dst := some 116, op := .load true 5 (.t 115) },
  { dst := some 117, op := .move (.t 0) },
  { dst := some 118, op := .move (.t 12) },
  { dst := some 119, op := .bin .sub (.t 118) (.c (.v (.int .i64 1))) },
  { dst := some 120, op := .iaddr 5 (.t 117) (.t 119) },
  { dst := some 121, op := .load true 5 (.t 120) },
  { dst := some 122, op := .callv (.t 112) [(.t 116), (.t 121)] },
  { dst := some 123, op := .bin .lss (.t 122) (.c (.v (.int .i64 0))) },
  { dst := some 124, op := .un .not (.t 123) }])
 (.cond (.t 124) (.exit 6) .skip))
 (.dregion [{ dst := some 125, op := .move (.t 0) },
  { dst := some 126, op := .move (.t 12) },
  { dst := some 127, op := .move (.t 0) },
  { dst := some 128, op := .move (.t 12) },
  { dst := some 129, op := .bin .sub (.t 128) (.c (.v (.int .i64 1))) },
  { dst := some 130, op := .move (.t 0) },
  { dst := some 131, op := .move (.t 12) },
  { dst := some 132, op := .bin .sub (.t 131) (.c (.v (.int .i64 1))) },
  { dst := some 133, op := .iaddr 5 (.t 130) (.t 132) },
  { dst := some 134, op := .load true 5 (.t 133) },
  { dst := some 135, op := .move (.t 0) },
  { dst := some 136, op := .move (.t 12) },
  { dst := some 137, op := .iaddr 5 (.t 135) (.t 136) },
  { dst := some 138, op := .load true 5 (.t 137) },
  { dst := some 139, op := .iaddr 5 (.t 125) (.t 126) },
  { dst := none, op := .store 5 (.t 139) (.t 134) },
  { dst := some 140, op := .iaddr 5 (.t 127) (.t 129) },
  { dst := none, op := .store 5 (.t 140) (.t 138) }])))
 (.region [{ dst := some 110, op := .move (.t 12) },
  { dst := some 111, op := .bin .add (.t 110) (.c (.v (.int .i64 1))) },
  { dst := some 12, op := .move (.t 111) }])))))) .skip))))))))
 (.region [{ dst := some 17, op := .move (.t 10) },
  { dst := some 18, op := .bin .add (.t 17) (.c (.v (.int .i64 1))) },
  { dst := some 10, op := .move (.t 18) }]))))))
 (.seq (.region [{ dst := some 8, op := .move (.c (.v (.bool false))) }])
 .ret))))⟩
/-- slices.partitionEqualCmpFunc[arras.api.Node] -/
def F327 : AFun := ⟨false, 90, [.t 10], (.seq (.region [{ dst := some 10, op := .move (.c (.v (.int .i64 0))) }])
 (.seq (.dregion [{ dst := some 13, op := .move (.t 0) },
  { dst := some 14, op := .move (.t 1) },
  { dst := some 15, op := .move (.t 0) },
  { dst := some 16, op := .move (.t 3) },
  { dst := some 17, op := .move (.t 0) },
  { dst := some 18, op := .move (.t 3) },
  { dst := some 19, op := .iaddr 5 (.t 17) (.t 18) },
  { dst := some 20, op := .load true 5 (.t 19) },
  { dst := some 21, op := .move (.t 0) },
  { dst := some 22, op := .move (.t 1) },
  { dst := some 23, op := .iaddr 5 (.t 21) (.t 22) },
  { dst := some 24, op := .load true 5 (.t 23) },
  { dst := some 25, op := .iaddr 5 (.t 13) (.t 14) },
  { dst := none, op := .store 5 (.t 25) (.t 20) },
  { dst := some 26, op := .iaddr 5 (.t 15) (.t 16) },
  { dst := none, op := .store 5 (.t 26) (.t 24) }])
 (.seq (.region [{ dst := some 27, op := .move (.t 1) },
  { dst := some 28, op := .bin .add (.t 27) (.c (.v (.int .i64 1))) },
  { dst := some 29, op := .move (.t 2) },
  { dst := some 30, op := .bin .sub (.t 29) (.c (.v (.int .i64 1))) },
  { dst := some 11, op := .move (.t 28) },
  { dst := some 12, op := .move (.t 30) }])
 (.seq (.block 0 (.loop (.block 1 (.seq (.block 2 (.loop (.seq (.seq (.dregion [{ dst := some 31, op := .move (.t 11) },
  { dst := some 32, op := .move (.t 12) },
  { dst := some 33, op := .bin .leq (.t 31) (.t 32) },
  { dst := some 34, op := .move (.t 33) },
  { dst := some 35, op := .move (.t 4), guard := some (34, true) },
  { dst := some 36, op := .move (.t 0), guard := some (34, true) },
  { dst := some 37, op := .move (.t 1), guard := some (34, true) },
  { dst := some 38, op := .iaddr 5 (.t 36) (.t 37), guard := some (34, true) },
  { dst := some 39, op := .load true 5 (.t 38), guard := some (34, true) },
  { dst := some 40, op := .move (.t 0), guard := some (34, true) },
  { dst := some 41, op := .move (.t 11), guard := some (34, true) },
  { dst := some 42, op := .iaddr 5 (.t 40) (.t 41), guard := some (34, true) },
  { dst := some 43, op := .load true 5 (.t 42), guard := some (34, true) },
  { dst := some 44, op := .callv (.t 35) [(.t 39), (.t 43)], guard := some (34, true) },
  { dst := some 45, op := .bin .lss (.t 44) (.c (.v (.int .i64 0))), guard := some (34, true) },
  { dst := some 46, op := .un .not (.t 45), guard := some (34, true) },
  { dst := some 47, op := .pick (.t 34) (.t 46) (.c (.v (.bool false))) }])
 (.cond (.t 47) .skip (.exit 2)))
 (.block 3 (.region [{ dst := some 48, op := .move (.t 11) },
  { dst := some 49, op := .bin .add (.t 48) (.c (.v (.int .i64 1))) },
  { dst := some 11, op := .move (.t 49) }])))))
 (.seq (.block 4 (.loop (.seq (.seq (.dregion [{ dst := some 50, op := .move (.t 11) },
  { dst := some 51, op := .move (.t 12) },
  { dst := some 52, op := .bin .leq (.t 50) (.t 51) },
  { dst := some 53, op := .move (.t 52) },
  { dst := some 54, op := .move (.t 4), guard := some (53, true) },
  { dst := some 55, op := .move (.t 0), guard := some (53, true) },
  { dst := some 56, op := .move (.t 1), guard := some (53, true) },
  { dst := some 57, op := .iaddr 5 (.t 55) (.t 56), guard := some (53, true) },
  { dst := some 58, op := .load true 5 (.t 57), guard := some (53, true) },
  { dst := some 59, op := .move (.t 0), guard := some (53, true) },
  { dst := some 60, op := .move (.t 12), guard := some (53, true) },
  { dst := some 61, op := .iaddr 5 (.t 59) (.t 60), guard := some (53, true) },
  { dst := some 62, op := .load true 5 (.t 61), guard := some (53, true) },
  { dst := some 63, op := .callv (.t 54) [(.t 58), (.t 62)], guard := some (53, true) },
  { dst := some 64, op := .bin .lss (.t 63) (.c (.v (.int .i64 0))), guard := some (53, true) },
  { dst := some 65, op := .pick (.t 53) (.t 64) (.c (.v (.bool false))) }])
 (.cond (.t 65) .skip (.exit 4)))
 (.block 5 (.region [{ dst := some 66, op := .move (.t 12) },
  { dst := some 67, op := .bin .sub (.t 66) (.c (.v (.int .i64 1))) },
  { dst := some 12, op := .move (.t 67) }])))))
 (.seq (.seq (.region [{ dst := some 68, op := .move (.t 11) },
  { dst := some 69, op := .move (.t 12) },
  { dst := some 70, op := .bin .gtr (.t 68) (.t 69) }])
 (.cond (.t 70) (.exit 0) .skip))
 (.seq (.dregion [{ dst := some 71, op := .move (.t 0) },
  { dst := some 72, op := .move (.t 11) },
  { dst := some 73, op := .move (.t 0) },
  { dst := some 74, op := .move (.t 12) },
  { dst := some 75, op := .move (.t 0) },
  { dst := some 76, op := .move (.t 12) },
  { dst := some 77, op := .iaddr 5 (.t 75) (.t 76) },
  { dst := some 78, op := .load true 5 (.t 77) },
  { dst := some 79, op := .move (.t 0) },
  { dst := some 80, op := .move (.t 11) },
  { dst := some 81, op := .iaddr 5 (.t 79) (.t 80) },
  { dst := some 82, op := .load true 5 (.t 81) },
  { dst := some 83, op := .iaddr 5 (.t 71) (.t 72) },
  { dst := none, op := .store 5 (.t 83) (.t 78) },
  { dst := some 84, op := .iaddr 5 (.t 73) (.t 74) },
  { dst := none, op := .store 5 (.t 84) (.t 82) }])
 (.seq (.region [{ dst := some 85, op := .move (.t 11) },
  { dst := some 86, op := .bin .add (.t 85) (.c (.v (.int .i64 1))) },
  { dst := some 11, op := .move (.t 86) }])
 (.region [{ dst := some 87, op := .move (.t 12) },
  { dst := some 88, op := .bin .sub (.t 87) (.c (.v (.int .i64 1))) },
  { dst := some 12, op := .move (.t 88) }])))))))))
 (.seq (.region [{ dst := some 89, op := .move (.t 11) },
  { dst := some 10, op := .move (.t 89) }])
 .ret)))))⟩
/-- slices.partitionCmpFunc[arras.api.Node] -/
def F328 : AFun := ⟨false, 178, [.t 10, .t 11], (.seq (.region [{ dst := some 10, op := .move (.c (.v (.int .i64 0))) },
  { dst := some 11, op := .move (.c (.v (.bool false))) }])
 (.seq (.dregion [{ dst := some 14, op := .move (.t 0) },
  { dst := some 15, op := .move (.t 1) },
  { dst := some 16, op := .move (.t 0) },
  { dst := some 17, op := .move (.t 3) },
  { dst := some 18, op := .move (.t 0) },
  { dst := some 19, op := .move (.t 3) },
  { dst := some 20, op := .iaddr 5 (.t 18) (.t 19) },
  { dst := some 21, op := .load true 5 (.t 20) },
  { dst := some 22, op := .move (.t 0) },
  { dst := some 23, op := .move (.t 1) },
  { dst := some 24, op := .iaddr 5 (.t 22) (.t 23) },
  { dst := some 25, op := .load true 5 (.t 24) },
  { dst := some 26, op := .iaddr 5 (.t 14) (.t 15) },
  { dst := none, op := .store 5 (.t 26) (.t 21) },
  { dst := some 27, op := .iaddr 5 (.t 16) (.t 17) },
  { dst := none, op := .store 5 (.t 27) (.t 25) }])
 (.seq (.region [{ dst := some 28, op := .move (.t 1) },
  { dst := some 29, op := .bin .add (.t 28) (.c (.v (.int .i64 1))) },
  { dst := some 30, op := .move (.t 2) },
  { dst := some 31, op := .bin .sub (.t 30) (.c (.v (.int .i64 1))) },
  { dst := some 12, op := .move (.t 29) },
  { dst := some 13, op := .move (.t 31) }])
 (.seq (.block 0 (.loop (.seq (.seq (.dregion [{ dst := some 32, op := .move (.t 12) },
  { dst := some 33, op := .move (.t 13) },
  { dst := some 34, op := .bin .leq (.t 32) (.t 33) },
  { dst := some 35, op := .move (.t 34) },
  { dst := some 36, op := .move (.t 4), guard := some (35, true) },
  { dst := some 37, op := .move (.t 0), guard := some (35, true) },
  { dst := some 38, op := .move (.t 12), guard := some (35, true) },
  { dst := some 39, op := .iaddr 5 (.t 37) (.t 38), guard := some (35, true) },
  { dst := some 40, op := .load true 5 (.t 39), guard := some (35, true) },
  { dst := some 41, op := .move (.t 0), guard := some (35, true) },
  { dst := some 42, op := .move (.t 1), guard := some (35, true) },
  { dst := some 43, op := .iaddr 5 (.t 41) (.t 42), guard := some (35, true) },
  { dst := some 44, op := .load true 5 (.t 43), guard := some (35, true) },
  { dst := some 45, op := .callv (.t 36) [(.t 40), (.t 44)], guard := some (35, true) },
  { dst := some 46, op := .bin .lss (.t 45) (.c (.v (.int .i64 0))), guard := some (35, true) },
  { dst := some 47, op := .pick (.t 35) (.t 46) (.c (.v (.bool false))) }])
 (.cond (.t 47) .skip (.exit 0)))
 (.block 1 (.region [{ dst := some 48, op := .move (.t 12) },
  { dst := some 49, op := .bin .add (.t 48) (.c (.v (.int .i64 1))) },
  { dst := some 12, op := .move (.t 49) }])))))
 (.seq (.block 2 (.loop (.seq (.seq (.dregion [{ dst := some 50, op := .move (.t 12) },
  { dst := some 51, op := .move (.t 13) },
  { dst := some 52, op := .bin .leq (.t 50) (.t 51) },
  { dst := some 53, op := .move (.t 52) },
  { dst := some 54, op := .move (.t 4), guard := some (53, true) },
  { dst := some 55, op := .move (.t 0), guard := some (53, true) },
  { dst := some 56, op := .move (.t 13), guard := some (53, true) },
  { dst := some 57, op := .iaddr 5 (.t 55) (.t 56), guard := some (53, true) },
  { dst := some 58, op := .load true 5 (.t 57), guard := some (53, true) },
  { dst := some 59, op := .move (.t 0), guard := some (53, true) },
  { dst := some 60, op := .move (.t 1), guard := some (53, true) },
  { dst := some 61, op := .iaddr 5 (.t 59) (.t 60), guard := some (53, true) },
  { dst := some 62, op := .load true 5 (.t 61), guard := some (53, true) },
  { dst := some 63, op := .callv (.t 54) [(.t 58), (.t 62)], guard := some (53, true) },
  { dst := some 64, op := .bin .lss (.t 63) (.c (.v (.int .i64 0))), guard := some (53, true) },
  { dst := some 65, op := .un .not (.t 64), guard := some (53, true) },
  { dst := some 66, op := .pick (.t 53) (.t 65) (.c (.v (.bool false))) }])
 (.cond (.t 66) .skip (.exit 2)))
 (.block 3 (.region [{ dst := some 67, op := .move (.t 13) },
  { dst := some 68, op := .bin .sub (.t 67) (.c (.v (.int .i64 1))) },
  { dst := some 13, op := .move (.t 68) }])))))
 (.seq (.seq (.region [{ dst := some 69, op := .move (.t 12) },
  { dst := some 70, op := .move (.t 13) },
  { dst := some 71, op := .bin .gtr (.t 69) (.t 70) }])
 (.cond (.t 71) (.seq (.dregion [{ dst := some 72, op := .move (.t 0) },
  { dst := some 73, op := .move (.t 13) },
  { dst := some 74, op := .move (.t 0) },
  { dst := some 75, op := .move (.t 1) },
  { dst := some 76, op := .move (.t 0) },
  { dst := some 77, op := .move (.t 1) },
  { dst := some 78, op := .iaddr 5 (.t 76) (.t 77) },
  { dst := some 79, op := .load true 5 (.t 78) },
  { dst := some 80, op := .move (.t 0) },
  { dst := some 81, op := .move (.t 13) },
  { dst := some 82, op := .iaddr 5 (.t 80) (.t 81) },
  { dst := some 83, op := .load true 5 (.t 82) },
  { dst := some 84, op := .iaddr 5 (.t 72) (.t 73) },
  { dst := none, op := .store 5 (.t 84) (.t 79) },
  { dst := some 85, op := .iaddr 5 (.t 74) (.t 75) },
  { dst := none, op := .store 5 (.t 85) (.t 83) }])
 (.seq (.region [{ dst := some 86, op := .move (.t 13) },
  { dst := some 10, op := .move (.t 86) },
  { dst := some 11, op := .move (.c (.v (.bool true))) }])
 .ret)) .skip))
 (.seq (.dregion [{ dst := some 87, op := .move (.t 0) },
  { dst := some 88, op := .move (.t 12) },
  { dst := some 89, op := .move (.t 0) },
  { dst := some 90, op := .move (.t 13) },
  { dst := some 91, op := .move (.t 0) },
  { dst := some 92, op := .move (.t 13) },
  { dst := some 93, op := .iaddr 5 (.t 91) (.t 92) },
  { dst := some 94, op := .load true 5 (.t 93) },
  { dst := some 95, op := .move (.t 0) },
  { dst := some 96, op := .move (.t 12) },
  { dst := some 97, op := .iaddr 5 (.t 95) (.t 96) },
  { dst := some 98, op := .load true 5 (.t 97) },
  { dst := some 99, op := .iaddr 5 (.t 87) (.t 88) },
  { dst := none, op := .store 5 (.t 99) (.t 94) },
  { dst := some 100, op := .iaddr 5 (.t 89) (.t 90) },
  { dst := none, op := .store 5 (.t 100) (.t 98) }])
 (.seq (.region [{ dst := some 101, op := .move (.t 12) },
  { dst := some 102, op := .bin .add (.t 101) (.c (.v (.int .i64 1))) },
  { dst := some 12, op := .move (.t 102) }])
 (.seq (.region [{ dst := some 103, op := .move (.t 13) },
  { dst := some 104, op := .bin .sub (.t 103) (.c (.v (.int .i64 1))) },
  { dst := some 13, op := .move (.t 104) }])
 (.seq (.block 4 (.loop (.block 5 (.seq (.block 6 (.loop (.seq (.seq (.dregion [{ dst := some 105, op := .move (.t 12) },
  { dst := some 106, op := .move (.t 13) },
  { dst := some 107, op := .bin .leq (.t 105) (.t 106) },
  { dst := some 108, op := .move (.t 107) },
  { dst := some 109, op := .move (.t 4), guard := some (108, true) },
  { dst := some 110, op := .move (.t 0), guard := some (108, true) },
  { dst := some 111, op := .move (.t 12), guard := some (108, true) },
  { dst := some 112, op := .iaddr 5 (.t 110) (.t 111), guard := some (108, true) },
  { dst := some 113, op := .load true 5 (.t 112), guard := some (108, true) },
  { dst := some 114, op := .move (.t 0), guard := some (108, true) },
  { dst := some 115, op := .move (.t 1), guard := some (108, true) },
  { dst := some 116, op := .iaddr 5 (.t 114) (.t 115), guard := some (108, true) },
  { dst := some 117, op := .load true 5 (.t 116), guard := some (108, true) },
  { dst := some 118, op := .callv (.t 109) [(.t 113), (.t 117)], guard := some (108, true) },
  { dst := some 119, op := .bin .lss (.t 118) (.c (.v (.int .i64 0))), guard := some (108, true) },
  { dst := some 120, op := .pick (.t 108) (.t 119) (.c (.v (.bool false))) }])
 (.cond (.t 120) .skip (.exit 6)))
 (.block 7 (.region [{ dst := some 121, op := .move (.t 12) },
  { dst := some 122, op := .bin .add (.t 121) (.c (.v (.int .i64 1))) },
  { dst := some 12, op := .move (.t 122) }])))))
 (.seq (.block 8 (.loop (.seq (.seq (.dregion [{ dst := some 123, op := .move (.t 12) },
  { dst := some 124, op := .move (.t 13) },
  { dst := some 125, op := .bin .leq (.t 123) (.t 124) },
  { dst := some 126, op := .move (.t 125) },
  { dst := some 127, op := .move (.t 4), guard := some (126, true) },
  { dst := some 128, op := .move (.t 0), guard := some (126, true) },
  { dst := some 129, op := .move (.t 13), guard := some (126, true) },
  { dst := some 130, op := .iaddr 5 (.t 128) (.t 129), guard := some (126, true) },
  { dst := some 131, op := .load true 5 (.t 130), guard := some (126, true) },
  { dst := some 132, op := .move (.t 0), guard := some (126, true) },
  { dst := some 133, op := .move (.t 1), guard := some (126, true) },
  { dst := some 134, op := .iaddr 5 (.t 132) (.t 133), guard := some (126, true) },
  { dst := some 135, op := .load true 5 (.t 134), guard := some (126, true) },
  { dst := some 136, op := .callv (.t 127) [(.t 131), (.t 135)], guard := some (126, true) },
  { dst := some 137, op := .bin .lss (.t 136) (.c (.v (.int .i64 0))), guard := some (126, true) },
  { dst := some 138, op := .un .not (.t 137), guard := some (126, true) },
  { dst := some 139, op := .pick (.t 126) (.t 138) (.c (.v (.bool false))) }])
 (.cond (.t 139) .skip (.exit 8)))
 (.block 9 (.region [{ dst := some 140, op := .move (.t 13) },
  { dst := some 141, op := .bin .sub (.t 140) (.c (.v (.int .i64 1))) },
  { dst := some 13, op := .move (.t 141) }])))))
 (.seq (.seq (.region [{ dst := some 142, op := .move (.t 12) },
  { dst := some 143, op := .move (.t 13) },
  { dst := some 144, op := .bin .gtr (.t 142) (.t 143) }])
 (.cond (.t 144) (.exit 4) .skip))
 (.seq (.dregion [{ dst := some 145, op := .move (.t 0) },
  { dst := some 146, op := .move (.t 12) },
  { dst := some 147, op := .move (.t 0) },
  { dst := some 148, op := .move (.t 13) },
  { dst := some 149, op := .move (.t 0) },
  { dst := some 150, op := .move (.t 13) },
  { dst := some 151, op := .iaddr 5 (.t 149) (.t 150) },
  { dst := some 152, op := .load true 5 (.t 151) },
  { dst := some 153, op := .move (.t 0) },
  { dst := some 154, op := .move (.t 12) },
  { dst := some 155, op := .iaddr 5 (.t 153) (.t 154) },
  { dst := some 156, op := .load true 5 (.t 155) },
  { dst := some 157, op := .iaddr 5 (.t 145) (.t 146) },
  { dst := none, op := .store 5 (.t 157) (.t 152) },
  { dst := some 158, op := .iaddr 5 (.t 147) (.t 148) },
  { dst := none, op := .store 5 (.t 158) (.t 156) }])
 (.seq (.region [{ dst := some 159, op := .move (.t 12) },
  { dst := some 160, op := .bin .add (.t 159) (.c (.v (.int .i64 1))) },
  { dst := some 12, op := .move (.t 160) }])
 (.region [{ dst := some 161, op := .move (.t 13) },
  { dst := some 162, op := .bin .sub (.t 161) (.c (.v (.int .i64 1))) },
  { dst := some 13, op := .move (.t 162) }])))))))))
 (.seq (.dregion [{ dst := some 163, op := .move (.t 0) },
  { dst := some 164, op := .move (.t 13) },
  { dst := some 165, op := .move (.t 0) },
  { dst := some 166, op := .move (.t 1) },
  { dst := some 167, op := .move (.t 0) },
  { dst := some 168, op := .move (.t 1) },
  { dst := some 169, op := .iaddr 5 (.t 167) (.t 168) },
  { dst := some 170, op := .load true 5 (.t 169) },
  { dst := some 171, op := .move (.t 0) },
  { dst := some 172, op := .move (.t 13) },
  { dst := some 173, op := .iaddr 5 (.t 171) (.t 172) },
  { dst := some 174, op := .load true 5 (.t 173) },
  { dst := some 175, op := .iaddr 5 (.t 163) (.t 164) },
  { dst := none, op := .store 5 (.t 175) (.t 170) },
  { dst := some 176, op := .iaddr 5 (.t 165) (.t 166) },
  { dst := none, op := .store 5 (.t 176) (.t 174) }])
 (.seq (.region [{ dst := some 177, op := .move (.t 13) },
  { dst := some 10, op := .move (.t 177) },
  { dst := some 11, op := .move (.c (.v (.bool false))) }])
 .ret))))))))))))⟩
/-- math.bits.Len32 -/
def F329 : AFun := ⟨true, 19, [.t 2], (.seq (.region [{ dst := some 2, op := .move (.c (.v (.int .i64 0))) }])
 (.seq (.seq (.region [{ dst := some 3, op := .move (.t 0) },
  { dst := some 4, op := .bin .geq (.t 3) (.c (.v (.int .u32 65536))) }])
 (.cond (.t 4) (.seq (.region [{ dst := some 5, op := .move (.t 0) },
  { dst := some 6, op := .bin .shr (.t 5) (.c (.v (.int .u64 16))) },
  { dst := some 0, op := .move (.t 6) }])
 (.region [{ dst := some 2, op := .move (.c (.v (.int .i64 16))) }])) .skip))
 (.seq (.seq (.region [{ dst := some 7, op := .move (.t 0) },
  { dst := some 8, op := .bin .geq (.t 7) (.c (.v (.int .u32 256))) }])
 (.cond (.t 8) (.seq (.region [{ dst := some 9, op := .move (.t 0) },
  { dst := some 10, op := .bin .shr (.t 9) (.c (.v (.int .u64 8))) },
  { dst := some 0, op := .move (.t 10) }])
 (.region [{ dst := some 11, op := .move (.t 2) },
  { dst := some 12, op := .bin .add (.t 11) (.c (.v (.int .i64 8))) },
  { dst := some 2, op := .move (.t 12) }])) .skip))
 (.seq (.region [{ dst := some 13, op := .move (.t 2) },
  { dst := some 14, op := .move (.t 0) },
  { dst := some 15, op := .conv .u8 (.t 14) },
  { dst := some 16, op := .index (.c (.v (.string ⟨#[0, 1, 2, 2, 3, 3, 3, 3, 4, 4, 4, 4, 4, 4, 4, 4, 5, 5, 5, 5, 5, 5, 5, 5, 5, 5, 5, 5, 5, 5, 5, 5, 6, 6, 6, 6, 6, 6, 6, 6, 6, 6, 6, 6, 6, 6, 6, 6, 6, 6, 6, 6, 6, 6, 6, 6, 6, 6, 6, 6, 6, 6, 6, 6, 7, 7, 7, 7, 7, 7, 7, 7, 7, 7, 7, 7, 7, 7, 7, 7, 7, 7, 7, 7, 7, 7, 7, 7, 7, 7, 7, 7, 7, 7, 7, 7, 7, 7, 7, 7, 7, 7, 7, 7, 7, 7, 7, 7, 7, 7, 7, 7, 7, 7, 7, 7, 7, 7, 7, 7, 7, 7, 7, 7, 7, 7, 7, 7, 8, 8, 8, 8, 8, 8, 8, 8, 8, 8, 8, 8, 8, 8, 8, 8, 8, 8, 8, 8, 8, 8, 8, 8, 8, 8, 8, 8, 8, 8, 8, 8, 8, 8, 8, 8, 8, 8, 8, 8, 8, 8, 8, 8, 8, 8, 8, 8, 8, 8, 8, 8, 8, 8, 8, 8, 8, 8, 8, 8, 8, 8, 8, 8, 8, 8, 8, 8, 8, 8, 8, 8, 8, 8, 8, 8, 8, 8, 8, 8, 8, 8, 8, 8, 8, 8, 8, 8, 8, 8, 8, 8, 8, 8, 8, 8, 8, 8, 8, 8, 8, 8, 8, 8, 8, 8, 8, 8, 8, 8, 8, 8, 8, 8, 8, 8, 8, 8, 8, 8, 8, 8, 8, 8, 8, 8, 8, 8]⟩))) (.t 15) },
  { dst := some 17, op := .conv .i64 (.t 16) },
  { dst := some 18, op := .bin .add (.t 13) (.t 17) },
  { dst := some 2, op := .move (.t 18) }])
 .ret))))⟩
/-- math.bits.Len64 -/
def F330 : AFun := ⟨true, 25, [.t 2], (.seq (.region [{ dst := some 2, op := .move (.c (.v (.int .i64 0))) }])
 (.seq (.seq (.region [{ dst := some 3, op := .move (.t 0) },
  { dst := some 4, op := .bin .geq (.t 3) (.c (.v (.int .u64 4294967296))) }])
 (.cond (.t 4) (.seq (.region [{ dst := some 5, op := .move (.t 0) },
  { dst := some 6, op := .bin .shr (.t 5) (.c (.v (.int .u64 32))) },
  { dst := some 0, op := .move (.t 6) }])
 (.region [{ dst := some 2, op := .move (.c (.v (.int .i64 32))) }])) .skip))
 (.seq (.seq (.region [{ dst := some 7, op := .move (.t 0) },
  { dst := some 8, op := .bin .geq (.t 7) (.c (.v (.int .u64 65536))) }])
 (.cond (.t 8) (.seq (.region [{ dst := some 9, op := .move (.t 0) },
  { dst := some 10, op := .bin .shr (.t 9) (.c (.v (.int .u64 16))) },
  { dst := some 0, op := .move (.t 10) }])
 (.region [{ dst := some 11, op := .move (.t 2) },
  { dst := some 12, op := .bin .add (.t 11) (.c (.v (.int .i64 16))) },
  { dst := some 2, op := .move (.t 12) }])) .skip))
 (.seq (.seq (.region [{ dst := some 13, op := .move (.t 0) },
  { dst := some 14, op := .bin .geq (.t 13) (.c (.v (.int .u64 256))) }])
 (.cond (.t 14) (.seq (.region [{ dst := some 15, op := .move (.t 0) },
  { dst := some 16, op := .bin .shr (.t 15) (.c (.v (.int .u64 8))) },
  { dst := some 0, op := .move (.t 16) }])
 (.region [{ dst := some 17, op := .move (.t 2) },
  { dst := some 18, op := .bin .add (.t 17) (.c (.v (.int .i64 8))) },
  { dst := some 2, op := .move (.t 18) }])) .skip))
 (.seq (.region [{ dst := some 19, op := .move (.t 2) },
  { dst := some 20, op := .move (.t 0) },
  { dst := some 21, op := .conv .u8 (.t 20) },
  { dst := some 22, op := .index (.c (.v (.string ⟨#[0, 1, 2, 2, 3, 3, 3, 3, 4, 4, 4, 4, 4, 4, 4, 4, 5, 5, 5, 5, 5, 5, 5, 5, 5, 5, 5, 5, 5, 5, 5, 5, 6, 6, 6, 6, 6, 6, 6, 6, 6, 6, 6, 6, 6, 6, 6, 6, 6, 6, 6, 6, 6, 6, 6, 6, 6, 6, 6, 6, 6, 6, 6, 6, 7, 7, 7, 7, 7, 7, 7, 7, 7, 7, 7, 7, 7, 7, 7, 7, 7, 7, 7, 7, 7, 7, 7, 7, 7, 7, 7, 7, 7, 7, 7, 7, 7, 7, 7, 7, 7, 7, 7, 7, 7, 7, 7, 7, 7, 7, 7, 7, 7, 7, 7, 7, 7, 7, 7, 7, 7, 7, 7, 7, 7, 7, 7, 7, 8, 8, 8, 8, 8, 8, 8, 8, 8, 8, 8, 8, 8, 8, 8, 8, 8, 8, 8, 8, 8, 8, 8, 8, 8, 8, 8, 8, 8, 8, 8, 8, 8, 8, 8, 8, 8, 8, 8, 8, 8, 8, 8, 8, 8, 8, 8, 8, 8, 8, 8, 8, 8, 8, 8, 8, 8, 8, 8, 8, 8, 8, 8, 8, 8, 8, 8, 8, 8, 8, 8, 8, 8, 8, 8, 8, 8, 8, 8, 8, 8, 8, 8, 8, 8, 8, 8, 8, 8, 8, 8, 8, 8, 8, 8, 8, 8, 8, 8, 8, 8, 8, 8, 8, 8, 8, 8, 8, 8, 8, 8, 8, 8, 8, 8, 8, 8, 8, 8, 8, 8, 8, 8, 8, 8, 8, 8, 8]⟩))) (.t 21) },
  { dst := some 23, op := .conv .i64 (.t 22) },
  { dst := some 24, op := .bin .add (.t 19) (.t 23) },
  { dst := some 2, op := .move (.t 24) }])
 .ret)))))⟩
/-- slices.rotateRight[arras.api.Node] -/
def F347 : AFun := ⟨false, 10, [], (.region [{ dst := some 4, op := .move (.t 0) },
  { dst := some 5, op := .move (.t 0) },
  { dst := some 6, op := .len (.t 5) },
  { dst := some 7, op := .move (.t 1) },
  { dst := some 8, op := .bin .sub (.t 6) (.t 7) },
  { dst := some 9, op := .call 368 [(.t 4), (.t 8)] }])⟩
/-- slices.Reverse[[]arras.api.Look,arras.api.Look] -/
def F348 : AFun := ⟨false, 28, [], (.seq (.region [{ dst := some 4, op := .move (.t 0) },
  { dst := some 5, op := .len (.t 4) },
  { dst := some 6, op := .bin .sub (.t 5) (.c (.v (.int .i64 1))) },
  { dst := some 2, op := .move (.c (.v (.int .i64 0))) },
  { dst := some 3, op := .move (.t 6) }])
 (.block 0 (.loop (.seq (.seq (.region [{ dst := some 7, op := .move (.t 2) },
  { dst := some 8, op := .move (.t 3) },
  { dst := some 9, op := .bin .lss (.t 7) (.t 8) }])
 (.cond (.t 9) .skip (.exit 0)))
 (.seq (.block 1 (.dregion [{ dst := some 14, op := .move (.t 0) },
  { dst := some 15, op := .move (.t 2) },
  { dst := some 16, op := .move (.t 0) },
  { dst := some 17, op := .move (.t 3) },
  { dst := some 18, op := .move (.t 0) },
  { dst := some 19, op := .move (.t 3) },
  { dst := some 20, op := .iaddr 3 (.t 18) (.t 19) },
  { dst := some 21, op := .load true 3 (.t 20) },
  { dst := some 22, op := .move (.t 0) },
  { dst := some 23, op := .move (.t 2) },
  { dst := some 24, op := .iaddr 3 (.t 22) (.t 23) },
  { dst := some 25, op := .load true 3 (.t 24) },
  { dst := some 26, op := .iaddr 3 (.t 14) (.t 15) },
  { dst := none, op := .store 3 (.t 26) (.t 21) },
  { dst := some 27, op := .iaddr 3 (.t 16) (.t 17) },
  { dst := none, op := .store 3 (.t 27) (.t 25) }]))
 (.region [{ dst := some 10, op := .move (.t 2) },
  { dst := some 11, op := .bin .add (.t 10) (.c (.v (.int .i64 1))) },
  { dst := some 12, op := .move (.t 3) },
  { dst := some 13, op := .bin .sub (.t 12) (.c (.v (.int .i64 1))) },
  { dst := some 2, op := .move (.t 11) },
  { dst := some 3, op := .move (.t 13) }]))))))⟩
/-- slices.rotateLeft[arras.api.Reg] -/
def F349 : AFun := ⟨false, 14, [], (.seq (.region [{ dst := some 4, op := .move (.t 0) },
  { dst := some 5, op := .move (.t 1) },
  { dst := some 6, op := .slice 4 (.t 4) none (some (.t 5)) none },
  { dst := some 7, op := .call 369 [(.t 6)] }])
 (.seq (.region [{ dst := some 8, op := .move (.t 0) },
  { dst := some 9, op := .move (.t 1) },
  { dst := some 10, op := .slice 4 (.t 8) (some (.t 9)) none none },
  { dst := some 11, op := .call 369 [(.t 10)] }])
 (.region [{ dst := some 12, op := .move (.t 0) },
  { dst := some 13, op := .call 369 [(.t 12)] }])))⟩
/-- slices.Reverse[[]arras.api.Op,arras.api.Op] -/
def F350 : AFun := ⟨false, 28, [], (.seq (.region [{ dst := some 4, op := .move (.t 0) },
  { dst := some 5, op := .len (.t 4) },
  { dst := some 6, op := .bin .sub (.t 5) (.c (.v (.int .i64 1))) },
  { dst := some 2, op := .move (.c (.v (.int .i64 0))) },
  { dst := some 3, op := .move (.t 6) }])
 (.block 0 (.loop (.seq (.seq (.region [{ dst := some 7, op := .move (.t 2) },
  { dst := some 8, op := .move (.t 3) },
  { dst := some 9, op := .bin .lss (.t 7) (.t 8) }])
 (.cond (.t 9) .skip (.exit 0)))
 (.seq (.block 1 (.dregion [{ dst := some 14, op := .move (.t 0) },
  { dst := some 15, op := .move (.t 2) },
  { dst := some 16, op := .move (.t 0) },
  { dst := some 17, op := .move (.t 3) },
  { dst := some 18, op := .move (.t 0) },
  { dst := some 19, op := .move (.t 3) },
  { dst := some 20, op := .iaddr 12 (.t 18) (.t 19) },
  { dst := some 21, op := .load true 12 (.t 20) },
  { dst := some 22, op := .move (.t 0) },
  { dst := some 23, op := .move (.t 2) },
  { dst := some 24, op := .iaddr 12 (.t 22) (.t 23) },
  { dst := some 25, op := .load true 12 (.t 24) },
  { dst := some 26, op := .iaddr 12 (.t 14) (.t 15) },
  { dst := none, op := .store 12 (.t 26) (.t 21) },
  { dst := some 27, op := .iaddr 12 (.t 16) (.t 17) },
  { dst := none, op := .store 12 (.t 27) (.t 25) }]))
 (.region [{ dst := some 10, op := .move (.t 2) },
  { dst := some 11, op := .bin .add (.t 10) (.c (.v (.int .i64 1))) },
  { dst := some 12, op := .move (.t 3) },
  { dst := some 13, op := .bin .sub (.t 12) (.c (.v (.int .i64 1))) },
  { dst := some 2, op := .move (.t 11) },
  { dst := some 3, op := .move (.t 13) }]))))))⟩
/-- slices.siftDownCmpFunc[arras.api.Node] -/
def F351 : AFun := ⟨false, 82, [], (.seq (.region [{ dst := some 12, op := .move (.t 1) },
  { dst := some 10, op := .move (.t 12) }])
 (.block 0 (.loop (.block 1 (.seq (.region [{ dst := some 13, op := .move (.t 10) },
  { dst := some 14, op := .bin .mul (.c (.v (.int .i64 2))) (.t 13) },
  { dst := some 15, op := .bin .add (.t 14) (.c (.v (.int .i64 1))) },
  { dst := some 11, op := .move (.t 15) }])
 (.seq (.seq (.region [{ dst := some 16, op := .move (.t 11) },
  { dst := some 17, op := .move (.t 2) },
  { dst := some 18, op := .bin .geq (.t 16) (.t 17) }])
 (.cond (.t 18) (.exit 0) .skip))
 (.seq (.seq (.dregion [{ dst := some 19, op := .move (.t 11) },
  { dst := some 20, op := .bin .add (.t 19) (.c (.v (.int .i64 1))) },
  { dst := some 21, op := .move (.t 2) },
  { dst := some 22, op := .bin .lss (.t 20) (.t 21) },
  { dst := some 23, op := .move (.t 22) },
  { dst := some 24, op := .move (.t 4), guard := some (23, true) },
  { dst := some 25, op := .move (.t 0), guard := some (23, true) },
  { dst := some 26, op := .move (.t 3), guard := some (23, true) },
  { dst := some 27, op := .move (.t 11), guard := some (23, true) },
  { dst := some 28, op := .bin .add (.t 26) (.t 27), guard := some (23, true) },
  { dst := some 29, op := .iaddr 5 (.t 25) (.t 28), guard := some (23, true) },
  { dst := some 30, op := .load true 5 (.t 29), guard := some (23, true) },
  { dst := some 31, op := .move (.t 0), guard := some (23, true) },
  { dst := some 32, op := .move (.t 3), guard := some (23, true) },
  { dst := some 33, op := .move (.t 11), guard := some (23, true) },
  { dst := some 34, op := .bin .add (.t 32) (.t 33), guard := some (23, true) },
  { dst := some 35, op := .bin .add (.t 34) (.c (.v (.int .i64 1))), guard := some (23, true) },
  { dst := some 36, op := .iaddr 5 (.t 31) (.t 35), guard := some (23, true) },
  { dst := some 37, op := .load true 5 (.t 36), guard := some (23, true) },
  { dst := some 38, op := .callv (.t 24) [(.t 30), (.t 37)], guard := some (23, true) },
  { dst := some 39, op := .bin .lss (.t 38) (.c (.v (.int .i64 0))), guard := some (23, true) },
  { dst := some 40, op := .pick (.t 23) (.t 39) (.c (.v (.bool false))) }])
 (.cond (.t 40) (.region [{ dst := some 41, op := .move (.t 11) },
  { dst := some 42, op := .bin .add (.t 41) (.c (.v (.int .i64 1))) },
  { dst := some 11, op := .move (.t 42) }]) .skip))
 (.seq (.seq (.dregion [{ dst := some 43, op := .move (.t 4) },
  { dst := some 44, op := .move (.t 0) },
  { dst := some 45, op := .move (.t 3) },
  { dst := some 46, op := .move (.t 10) },
  { dst := some 47, op := .bin .add (.t 45) (.t 46) },
  { dst := some 48, op := .iaddr 5 (.t 44) (.t 47) },
  { dst := some 49, op := .load true 5 (.t 48) },
  { dst := some 50, op := .move (.t 0) },
  { dst := some 51, op := .move (.t 3) },
  { dst := some 52, op := .move (.t 11) },
  { dst := some 53, op := .bin .add (.t 51) (.t 52) },
  { dst := some 54, op := .iaddr 5 (.t 50) (.t 53) },
  { dst := some 55, op := .load true 5 (.t 54) },
  { dst := some 56, op := .callv (.t 43) [(.t 49), (.t 55)] },
  { dst := some 57, op := .bin .lss (.t 56) (.c (.v (.int .i64 0))) },
  { dst := some 58, op := .un .not (.t 57) }])
 (.cond (.t 58) .ret .skip))
 (.seq (.dregion [{ dst := some 59, op := .move (.t 0) },
  { dst := some 60, op := .move (.t 3) },
  { dst := some 61, op := .move (.t 10) },
  { dst := some 62, op := .bin .add (.t 60) (.t 61) },
  { dst := some 63, op := .move (.t 0) },
  { dst := some 64, op := .move (.t 3) },
  { dst := some 65, op := .move (.t 11) },
  { dst := some 66, op := .bin .add (.t 64) (.t 65) },
  { dst := some 67, op := .move (.t 0) },
  { dst := some 68, op := .move (.t 3) },
  { dst := some 69, op := .move (.t 11) },
  { dst := some 70, op := .bin .add (.t 68) (.t 69) },
  { dst := some 71, op := .iaddr 5 (.t 67) (.t 70) },
  { dst := some 72, op := .load true 5 (.t 71) },
  { dst := some 73, op := .move (.t 0) },
  { dst := some 74, op := .move (.t 3) },
  { dst := some 75, op := .move (.t 10) },
  { dst := some 76, op := .bin .add (.t 74) (.t 75) },
  { dst := some 77, op := .iaddr 5 (.t 73) (.t 76) },
  { dst := some 78, op := .load true 5 (.t 77) },
  { dst := some 79, op := .iaddr 5 (.t 59) (.t 62) },
  { dst := none, op := .store 5 (.t 79) (.t 72) },
  { dst := some 80, op := .iaddr 5 (.t 63) (.t 66) },
  { dst := none, op := .store 5 (.t 80) (.t 78) }])
 (.region [{ dst := some 81, op := .move (.t 11) },
  { dst := some 10, op := .move (.t 81) }]))))))))))⟩
/-- slices.nextPowerOfTwo -/
def F352 : AFun := ⟨true, 7, [.t 2], (.seq (.region [{ dst := some 2, op := .move (.c (.v (.int .u64 0))) }])
 (.seq (.region [{ dst := some 3, op := .move (.t 0) },
  { dst := some 4, op := .conv .u64 (.t 3) },
  { dst := some 5, op := .call 304 [(.t 4)] },
  { dst := some 6, op := .bin .shl (.c (.v (.int .u64 1))) (.t 5) },
  { dst := some 2, op := .move (.t 6) }])
 .ret))⟩
/-- (*slices.xorshift).Next -/
def F353 : AFun := ⟨false, 33, [.t 2], (.seq (.region [{ dst := some 2, op := .move (.c (.v (.int .u64 0))) }])
 (.seq (.dregion [{ dst := some 3, op := .move (.t 0) },
  { dst := some 4, op := .nilChk (.t 3) },
  { dst := some 5, op := .load false 1 (.t 4) },
  { dst := some 6, op := .move (.t 0) },
  { dst := some 7, op := .nilChk (.t 6) },
  { dst := some 8, op := .load false 1 (.t 7) },
  { dst := some 9, op := .bin .shl (.t 8) (.c (.v (.int .u64 13))) },
  { dst := some 10, op := .bin .xor (.t 5) (.t 9) },
  { dst := some 11, op := .nilChk (.t 3) },
  { dst := none, op := .store 1 (.t 11) (.t 10) }])
 (.seq (.dregion [{ dst := some 12, op := .move (.t 0) },
  { dst := some 13, op := .nilChk (.t 12) },
  { dst := some 14, op := .load false 1 (.t 13) },
  { dst := some 15, op := .move (.t 0) },
  { dst := some 16, op := .nilChk (.t 15) },
  { dst := some 17, op := .load false 1 (.t 16) },
  { dst := some 18, op := .bin .shr (.t 17) (.c (.v (.int .u64 7))) },
  { dst := some 19, op := .bin .xor (.t 14) (.t 18) },
  { dst := some 20, op := .nilChk (.t 12) },
  { dst := none, op := .store 1 (.t 20) (.t 19) }])
 (.seq (.dregion [{ dst := some 21, op := .move (.t 0) },
  { dst := some 22, op := .nilChk (.t 21) },
  { dst := some 23, op := .load false 1 (.t 22) },
  { dst := some 24, op := .move (.t 0) },
  { dst := some 25, op := .nilChk (.t 24) },
  { dst := some 26, op := .load false 1 (.t 25) },
  { dst := some 27, op := .bin .shl (.t 26) (.c (.v (.int .u64 17))) },
  { dst := some 28, op := .bin .xor (.t 23) (.t 27) },
  { dst := some 29, op := .nilChk (.t 21) },
  { dst := none, op := .store 1 (.t 29) (.t 28) }])
 (.seq (.region [{ dst := some 30, op := .move (.t 0) },
  { dst := some 31, op := .nilChk (.t 30) },
  { dst := some 32, op := .load false 1 (.t 31) },
  { dst := some 2, op := .move (.t 32) }])
 .ret)))))⟩
/-- slices.medianAdjacentCmpFunc[arras.api.Node] -/
def F354 : AFun := ⟨false, 18, [.t 8], (.seq (.region [{ dst := some 8, op := .move (.c (.v (.int .i64 0))) }])
 (.seq (.region [{ dst := some 9, op := .move (.t 0) },
  { dst := some 10, op := .move (.t 1) },
  { dst := some 11, op := .bin .sub (.t 10) (.c (.v (.int .i64 1))) },
  { dst := some 12, op := .move (.t 1) },
  { dst := some 13, op := .move (.t 1) },
  { dst := some 14, op := .bin .add (.t 13) (.c (.v (.int .i64 1))) },
  { dst := some 15, op := .move (.t 2) },
  { dst := some 16, op := .move (.t 3) },
  { dst := some 17, op := .call 355 [(.t 9), (.t 11), (.t 12), (.t 14), (.t 15), (.t 16)] },
  { dst := some 8, op := .move (.t 17) }])
 .ret))⟩
/-- slices.medianCmpFunc[arras.api.Node] -/
def F355 : AFun := ⟨false, 41, [.t 12], (.seq (.region [{ dst := some 12, op := .move (.c (.v (.int .i64 0))) }])
 (.seq (.region [{ dst := some 14, op := .move (.t 0) },
  { dst := some 15, op := .move (.t 1) },
  { dst := some 16, op := .move (.t 2) },
  { dst := some 17, op := .move (.t 4) },
  { dst := some 18, op := .move (.t 5) },
  { dst := some 19, op := .call 370 [(.t 14), (.t 15), (.t 16), (.t 17), (.t 18)] },
  { dst := some 13, op := .move (.t 19) },
  { dst := some 20, op := .ext (.t 13) 0 },
  { dst := some 21, op := .ext (.t 13) 1 },
  { dst := some 1, op := .move (.t 20) },
  { dst := some 2, op := .move (.t 21) }])
 (.seq (.region [{ dst := some 23, op := .move (.t 0) },
  { dst := some 24, op := .move (.t 2) },
  { dst := some 25, op := .move (.t 3) },
  { dst := some 26, op := .move (.t 4) },
  { dst := some 27, op := .move (.t 5) },
  { dst := some 28, op := .call 370 [(.t 23), (.t 24), (.t 25), (.t 26), (.t 27)] },
  { dst := some 22, op := .move (.t 28) },
  { dst := some 29, op := .ext (.t 22) 0 },
  { dst := some 30, op := .ext (.t 22) 1 },
  { dst := some 2, op := .move (.t 29) },
  { dst := some 3, op := .move (.t 30) }])
 (.seq (.region [{ dst := some 32, op := .move (.t 0) },
  { dst := some 33, op := .move (.t 1) },
  { dst := some 34, op := .move (.t 2) },
  { dst := some 35, op := .move (.t 4) },
  { dst := some 36, op := .move (.t 5) },
  { dst := some 37, op := .call 370 [(.t 32), (.t 33), (.t 34), (.t 35), (.t 36)] },
  { dst := some 31, op := .move (.t 37) },
  { dst := some 38, op := .ext (.t 31) 0 },
  { dst := some 39, op := .ext (.t 31) 1 },
  { dst := some 1, op := .move (.t 38) },
  { dst := some 2, op := .move (.t 39) }])
 (.seq (.region [{ dst := some 40, op := .move (.t 2) },
  { dst := some 12, op := .move (.t 40) }])
 .ret)))))⟩
/-- slices.rotateLeft[arras.api.Node] -/
def F368 : AFun := ⟨false, 14, [], (.seq (.region [{ dst := some 4, op := .move (.t 0) },
  { dst := some 5, op := .move (.t 1) },
  { dst := some 6, op := .slice 5 (.t 4) none (some (.t 5)) none },
  { dst := some 7, op := .call 373 [(.t 6)] }])
 (.seq (.region [{ dst := some 8, op := .move (.t 0) },
  { dst := some 9, op := .move (.t 1) },
  { dst := some 10, op := .slice 5 (.t 8) (some (.t 9)) none none },
  { dst := some 11, op := .call 373 [(.t 10)] }])
 (.region [{ dst := some 12, op := .move (.t 0) },
  { dst := some 13, op := .call 373 [(.t 12)] }])))⟩
/-- slices.Reverse[[]arras.api.Reg,arras.api.Reg] -/
def F369 : AFun := ⟨false, 28, [], (.seq (.region [{ dst := some 4, op := .move (.t 0) },
  { dst := some 5, op := .len (.t 4) },
  { dst := some 6, op := .bin .sub (.t 5) (.c (.v (.int .i64 1))) },
  { dst := some 2, op := .move (.c (.v (.int .i64 0))) },
  { dst := some 3, op := .move (.t 6) }])
 (.block 0 (.loop (.seq (.seq (.region [{ dst := some 7, op := .move (.t 2) },
  { dst := some 8, op := .move (.t 3) },
  { dst := some 9, op := .bin .lss (.t 7) (.t 8) }])
 (.cond (.t 9) .skip (.exit 0)))
 (.seq (.block 1 (.dregion [{ dst := some 14, op := .move (.t 0) },
  { dst := some 15, op := .move (.t 2) },
  { dst := some 16, op := .move (.t 0) },
  { dst := some 17, op := .move (.t 3) },
  { dst := some 18, op := .move (.t 0) },
  { dst := some 19, op := .move (.t 3) },
  { dst := some 20, op := .iaddr 4 (.t 18) (.t 19) },
  { dst := some 21, op := .load true 4 (.t 20) },
  { dst := some 22, op := .move (.t 0) },
  { dst := some 23, op := .move (.t 2) },
  { dst := some 24, op := .iaddr 4 (.t 22) (.t 23) },
  { dst := some 25, op := .load true 4 (.t 24) },
  { dst := some 26, op := .iaddr 4 (.t 14) (.t 15) },
  { dst := none, op := .store 4 (.t 26) (.t 21) },
  { dst := some 27, op := .iaddr 4 (.t 16) (.t 17) },
  { dst := none, op := .store 4 (.t 27) (.t 25) }]))
 (.region [{ dst := some 10, op := .move (.t 2) },
  { dst := some 11, op := .bin .add (.t 10) (.c (.v (.int .i64 1))) },
  { dst := some 12, op := .move (.t 3) },
  { dst := some 13, op := .bin .sub (.t 12) (.c (.v (.int .i64 1))) },
  { dst := some 2, op := .move (.t 11) },
  { dst := some 3, op := .move (.t 13) }]))))))⟩
/-- slices.order2CmpFunc[arras.api.Node] -/
def F370 : AFun := ⟨false, 32, [.t 10, .t 11], (.seq (.region [{ dst := some 10, op := .move (.c (.v (.int .i64 0))) },
  { dst := some 11, op := .move (.c (.v (.int .i64 0))) }])
 (.seq (.seq (.dregion [{ dst := some 12, op := .move (.t 4) },
  { dst := some 13, op := .move (.t 0) },
  { dst := some 14, op := .move (.t 2) },
  { dst := some 15, op := .iaddr 5 (.t 13) (.t 14) },
  { dst := some 16, op := .load true 5 (.t 15) },
  { dst := some 17, op := .move (.t 0) },
  { dst := some 18, op := .move (.t 1) },
  { dst := some 19, op := .iaddr 5 (.t 17) (.t 18) },
  { dst := some 20, op := .load true 5 (.t 19) },
  { dst := some 21, op := .callv (.t 12) [(.t 16), (.t 20)] },
  { dst := some 22, op := .bin .lss (.t 21) (.c (.v (.int .i64 0))) }])
 (.cond (.t 22) (.seq (.region [{ dst := some 23, op := .move (.t 3) },
  { dst := some 24, op := .nilChk (.t 23) },
  { dst := some 25, op := .load false 1 (.t 24) },
  { dst := some 26, op := .bin .add (.t 25) (.c (.v (.int .i64 1))) },
  { dst := some 27, op := .nilChk (.t 23) },
  { dst := none, op := .store 1 (.t 27) (.t 26) }])
 (.seq (.region [{ dst := some 28, op := .move (.t 2) },
  { dst := some 29, op := .move (.t 1) },
  { dst := some 10, op := .move (.t 28) },
  { dst := some 11, op := .move (.t 29) }])
 .ret)) .skip))
 (.seq (.region [{ dst := some 30, op := .move (.t 1) },
  { dst := some 31, op := .move (.t 2) },
  { dst := some 10, op := .move (.t 30) },
  { dst := some 11, op := .move (.t 31) }])
 .ret)))⟩
/-- slices.Reverse[[]arras.api.Node,arras.api.Node] -/
def F373 : AFun := ⟨false, 28, [], (.seq (.region [{ dst := some 4, op := .move (.t 0) },
  { dst := some 5, op := .len (.t 4) },
  { dst := some 6, op := .bin .sub (.t 5) (.c (.v (.int .i64 1))) },
  { dst := some 2, op := .move (.c (.v (.int .i64 0))) },
  { dst := some 3, op := .move (.t 6) }])
 (.block 0 (.loop (.seq (.seq (.region [{ dst := some 7, op := .move (.t 2) },
  { dst := some 8, op := .move (.t 3) },
  { dst := some 9, op := .bin .lss (.t 7) (.t 8) }])
 (.cond (.t 9) .skip (.exit 0)))
 (.seq (.block 1 (.dregion [{ dst := some 14, op := .move (.t 0) },
  { dst := some 15, op := .move (.t 2) },
  { dst := some 16, op := .move (.t 0) },
  { dst := some 17, op := .move (.t 3) },
  { dst := some 18, op := .move (.t 0) },
  { dst := some 19, op := .move (.t 3) },
  { dst := some 20, op := .iaddr 5 (.t 18) (.t 19) },
  { dst := some 21, op := .load true 5 (.t 20) },
  { dst := some 22, op := .move (.t 0) },
  { dst := some 23, op := .move (.t 2) },
  { dst := some 24, op := .iaddr 5 (.t 22) (.t 23) },
  { dst := some 25, op := .load true 5 (.t 24) },
  { dst := some 26, op := .iaddr 5 (.t 14) (.t 15) },
  { dst := none, op := .store 5 (.t 26) (.t 21) },
  { dst := some 27, op := .iaddr 5 (.t 16) (.t 17) },
  { dst := none, op := .store 5 (.t 27) (.t 25) }]))
 (.region [{ dst := some 10, op := .move (.t 2) },
  { dst := some 11, op := .bin .add (.t 10) (.c (.v (.int .i64 1))) },
  { dst := some 12, op := .move (.t 3) },
  { dst := some 13, op := .bin .sub (.t 12) (.c (.v (.int .i64 1))) },
  { dst := some 2, op := .move (.t 11) },
  { dst := some 3, op := .move (.t 13) }]))))))⟩
end Go.Am.Fs
