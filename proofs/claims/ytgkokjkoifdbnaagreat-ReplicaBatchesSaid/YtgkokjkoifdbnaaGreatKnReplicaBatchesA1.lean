import Derived.Test.YtgkokjkoifdbnaaGreatMm
import Derived.Test.YtgkokjkoifdbnaaGreatGe
import Derived.Test.YtgkokjkoifdbnaaGreatKnReplicaBatchesD
import Derived.KernelRfl
/- What calls answer, run by the interpreter. -/
namespace Go.Proofs.YtgkokjkoifdbnaaGreat.knReplicaBatches
open Go.Am Go.Am.Fs Go.Am.KnReplicaBatches
set_option maxRecDepth 1000000
theorem k0 : isR (ownG' (withM T mmB) 100000 1000 22 false a0) r0 = true := by kernel_rfl
theorem k9 : isR (ownG' (withM T mmB) 100000 1000 194 true a9) r9 = true := by kernel_rfl
theorem k11 : isR (ownG' (withM T mmB) 100000 1000 85 false a11) r11 = true := by kernel_rfl
theorem k22 : isR (ownG' (withM T mmB) 100000 1000 22 false a22) r22 = true := by kernel_rfl
theorem k28 : isR (ownG' (withM T mmB) 100000 1000 194 true a28) r28 = true := by kernel_rfl
theorem k41 : isR (ownG' (withM T mmB) 100000 1000 85 false a41) r41 = true := by kernel_rfl
theorem k53 : isR (ownG' (withM T mmB) 100000 1000 90 false a53) r53 = true := by kernel_rfl
theorem k69 : isR (ownG' (withM T mmB) 100000 1000 85 false a69) r69 = true := by kernel_rfl
theorem k70 : isR (ownG' (withM T mmB) 100000 1000 194 true a70) r70 = true := by kernel_rfl
theorem k78 : isR (ownG' (withM T mmB) 100000 1000 22 false a78) r78 = true := by kernel_rfl
theorem k81 : isR (ownG' (withM T mmB) 100000 1000 90 false a81) r81 = true := by kernel_rfl
theorem k84 : isR (ownG' (withM T mmB) 100000 1000 194 true a84) r84 = true := by kernel_rfl
theorem k95 : isR (ownG' (withM T mmB) 100000 1000 90 false a95) r95 = true := by kernel_rfl
theorem k97 : isR (ownG' (withM T mmB) 100000 1000 85 false a97) r97 = true := by kernel_rfl
theorem k106 : isR (ownG' (withM T mmB) 100000 1000 22 false a106) r106 = true := by kernel_rfl
theorem k123 : isR (ownG' (withM T mmB) 100000 1000 90 false a123) r123 = true := by kernel_rfl
theorem k125 : isR (ownG' (withM T mmB) 100000 1000 85 false a125) r125 = true := by kernel_rfl
theorem k126 : isR (ownG' (withM T mmB) 100000 1000 194 true a126) r126 = true := by kernel_rfl
theorem k137 : isR (ownG' (withM T mmB) 100000 1000 22 false a137) r137 = true := by kernel_rfl
theorem k143 : isR (ownG' (withM T mmB) 100000 1000 194 true a143) r143 = true := by kernel_rfl
theorem k152 : isR (ownG' (withM T mmB) 100000 1000 22 false a152) r152 = true := by kernel_rfl
theorem k157 : isR (ownG' (withM T mmB) 100000 1000 85 false a157) r157 = true := by kernel_rfl
theorem k167 : isR (ownG' (withM T mmB) 100000 1000 22 false a167) r167 = true := by kernel_rfl
theorem k170 : isR (ownG' (withM T mmB) 100000 1000 90 false a170) r170 = true := by kernel_rfl
theorem k173 : isR (ownG' (withM T mmB) 100000 1000 194 true a173) r173 = true := by kernel_rfl
theorem k187 : isR (ownG' (withM T mmB) 100000 1000 85 false a187) r187 = true := by kernel_rfl
theorem k200 : isR (ownG' (withM T mmB) 100000 1000 90 false a200) r200 = true := by kernel_rfl
theorem k212 : isR (ownG' (withM T mmB) 100000 1000 22 false a212) r212 = true := by kernel_rfl
theorem k215 : isR (ownG' (withM T mmB) 100000 1000 90 false a215) r215 = true := by kernel_rfl
theorem k217 : isR (ownG' (withM T mmB) 100000 1000 85 false a217) r217 = true := by kernel_rfl
theorem k218 : isR (ownG' (withM T mmB) 100000 1000 194 true a218) r218 = true := by kernel_rfl
theorem k233 : isR (ownG' (withM T mmB) 100000 1000 194 true a233) r233 = true := by kernel_rfl
theorem k242 : isR (ownG' (withM T mmB) 100000 1000 22 false a242) r242 = true := by kernel_rfl
theorem k245 : isR (ownG' (withM T mmB) 100000 1000 90 false a245) r245 = true := by kernel_rfl
theorem k247 : isR (ownG' (withM T mmB) 100000 1000 85 false a247) r247 = true := by kernel_rfl
theorem k260 : isR (ownG' (withM T mmB) 100000 1000 22 false a260) r260 = true := by kernel_rfl
theorem k276 : isR (ownG' (withM T mmB) 100000 1000 22 false a276) r276 = true := by kernel_rfl
theorem k281 : isR (ownG' (withM T mmB) 100000 1000 85 false a281) r281 = true := by kernel_rfl
theorem k282 : isR (ownG' (withM T mmB) 100000 1000 194 true a282) r282 = true := by kernel_rfl
theorem k292 : isR (ownG' (withM T mmB) 100000 1000 22 false a292) r292 = true := by kernel_rfl
theorem k295 : isR (ownG' (withM T mmB) 100000 1000 90 false a295) r295 = true := by kernel_rfl
theorem k313 : isR (ownG' (withM T mmB) 100000 1000 85 false a313) r313 = true := by kernel_rfl
theorem k314 : isR (ownG' (withM T mmB) 100000 1000 194 true a314) r314 = true := by kernel_rfl
theorem k327 : isR (ownG' (withM T mmB) 100000 1000 90 false a327) r327 = true := by kernel_rfl
theorem k330 : isR (ownG' (withM T mmB) 100000 1000 194 true a330) r330 = true := by kernel_rfl
theorem k343 : isR (ownG' (withM T mmB) 100000 1000 90 false a343) r343 = true := by kernel_rfl
theorem k345 : isR (ownG' (withM T mmB) 100000 1000 85 false a345) r345 = true := by kernel_rfl
end Go.Proofs.YtgkokjkoifdbnaaGreat.knReplicaBatches
