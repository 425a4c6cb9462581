import Derived.Test.YtgkokjkoifdbnaaGreatMm
import Derived.Test.YtgkokjkoifdbnaaGreatGe
import Derived.Test.YtgkokjkoifdbnaaGreatKnReplicaFullD
import Derived.KernelRfl
/- What calls answer, run by the interpreter. -/
namespace Go.Proofs.YtgkokjkoifdbnaaGreat.knReplicaFull
open Go.Am Go.Am.Fs Go.Am.KnReplicaFull
set_option maxRecDepth 1000000
theorem k2 : isR (ownG' (withM T mmB) 100000 1000 85 false a2) r2 = true := by kernel_rfl
theorem k7 : isR (ownG' (withM T mmB) 100000 1000 85 false a7) r7 = true := by kernel_rfl
theorem k13 : isR (ownG' (withM T mmB) 100000 1000 194 true a13) r13 = true := by kernel_rfl
theorem k17 : isR (ownG' (withM T mmB) 100000 1000 85 false a17) r17 = true := by kernel_rfl
theorem k18 : isR (ownG' (withM T mmB) 100000 1000 194 true a18) r18 = true := by kernel_rfl
theorem k27 : isR (ownG' (withM T mmB) 100000 1000 85 false a27) r27 = true := by kernel_rfl
theorem k33 : isR (ownG' (withM T mmB) 100000 1000 194 true a33) r33 = true := by kernel_rfl
theorem k37 : isR (ownG' (withM T mmB) 100000 1000 85 false a37) r37 = true := by kernel_rfl
theorem k38 : isR (ownG' (withM T mmB) 100000 1000 194 true a38) r38 = true := by kernel_rfl
theorem k47 : isR (ownG' (withM T mmB) 100000 1000 85 false a47) r47 = true := by kernel_rfl
theorem k57 : isR (ownG' (withM T mmB) 100000 1000 85 false a57) r57 = true := by kernel_rfl
theorem k58 : isR (ownG' (withM T mmB) 100000 1000 194 true a58) r58 = true := by kernel_rfl
theorem k63 : isR (ownG' (withM T mmB) 100000 1000 194 true a63) r63 = true := by kernel_rfl
theorem k67 : isR (ownG' (withM T mmB) 100000 1000 85 false a67) r67 = true := by kernel_rfl
theorem k77 : isR (ownG' (withM T mmB) 100000 1000 85 false a77) r77 = true := by kernel_rfl
theorem k78 : isR (ownG' (withM T mmB) 100000 1000 194 true a78) r78 = true := by kernel_rfl
theorem k83 : isR (ownG' (withM T mmB) 100000 1000 194 true a83) r83 = true := by kernel_rfl
theorem k87 : isR (ownG' (withM T mmB) 100000 1000 85 false a87) r87 = true := by kernel_rfl
theorem k97 : isR (ownG' (withM T mmB) 100000 1000 85 false a97) r97 = true := by kernel_rfl
theorem k98 : isR (ownG' (withM T mmB) 100000 1000 194 true a98) r98 = true := by kernel_rfl
theorem k103 : isR (ownG' (withM T mmB) 100000 1000 194 true a103) r103 = true := by kernel_rfl
theorem k107 : isR (ownG' (withM T mmB) 100000 1000 85 false a107) r107 = true := by kernel_rfl
theorem k117 : isR (ownG' (withM T mmB) 100000 1000 85 false a117) r117 = true := by kernel_rfl
theorem k118 : isR (ownG' (withM T mmB) 100000 1000 194 true a118) r118 = true := by kernel_rfl
theorem k123 : isR (ownG' (withM T mmB) 100000 1000 194 true a123) r123 = true := by kernel_rfl
theorem k127 : isR (ownG' (withM T mmB) 100000 1000 85 false a127) r127 = true := by kernel_rfl
theorem k137 : isR (ownG' (withM T mmB) 100000 1000 85 false a137) r137 = true := by kernel_rfl
theorem k138 : isR (ownG' (withM T mmB) 100000 1000 194 true a138) r138 = true := by kernel_rfl
theorem k143 : isR (ownG' (withM T mmB) 100000 1000 194 true a143) r143 = true := by kernel_rfl
theorem k147 : isR (ownG' (withM T mmB) 100000 1000 85 false a147) r147 = true := by kernel_rfl
theorem k157 : isR (ownG' (withM T mmB) 100000 1000 85 false a157) r157 = true := by kernel_rfl
theorem k158 : isR (ownG' (withM T mmB) 100000 1000 194 true a158) r158 = true := by kernel_rfl
theorem k163 : isR (ownG' (withM T mmB) 100000 1000 194 true a163) r163 = true := by kernel_rfl
theorem k167 : isR (ownG' (withM T mmB) 100000 1000 85 false a167) r167 = true := by kernel_rfl
theorem k177 : isR (ownG' (withM T mmB) 100000 1000 85 false a177) r177 = true := by kernel_rfl
theorem k178 : isR (ownG' (withM T mmB) 100000 1000 194 true a178) r178 = true := by kernel_rfl
theorem k183 : isR (ownG' (withM T mmB) 100000 1000 194 true a183) r183 = true := by kernel_rfl
theorem k187 : isR (ownG' (withM T mmB) 100000 1000 85 false a187) r187 = true := by kernel_rfl
theorem k197 : isR (ownG' (withM T mmB) 100000 1000 85 false a197) r197 = true := by kernel_rfl
theorem k198 : isR (ownG' (withM T mmB) 100000 1000 194 true a198) r198 = true := by kernel_rfl
theorem k203 : isR (ownG' (withM T mmB) 100000 1000 194 true a203) r203 = true := by kernel_rfl
theorem k207 : isR (ownG' (withM T mmB) 100000 1000 85 false a207) r207 = true := by kernel_rfl
theorem k217 : isR (ownG' (withM T mmB) 100000 1000 85 false a217) r217 = true := by kernel_rfl
theorem k218 : isR (ownG' (withM T mmB) 100000 1000 194 true a218) r218 = true := by kernel_rfl
theorem k223 : isR (ownG' (withM T mmB) 100000 1000 194 true a223) r223 = true := by kernel_rfl
theorem k227 : isR (ownG' (withM T mmB) 100000 1000 85 false a227) r227 = true := by kernel_rfl
theorem k237 : isR (ownG' (withM T mmB) 100000 1000 85 false a237) r237 = true := by kernel_rfl
theorem k238 : isR (ownG' (withM T mmB) 100000 1000 194 true a238) r238 = true := by kernel_rfl
theorem k245 : isR (ownG' (withM T mmB) 100000 1000 194 true a245) r245 = true := by kernel_rfl
theorem k249 : isR (ownG' (withM T mmB) 100000 1000 85 false a249) r249 = true := by kernel_rfl
end Go.Proofs.YtgkokjkoifdbnaaGreat.knReplicaFull
