import Derived.Test.YtgkokjkoifdbnaaGreatMm
import Derived.Test.YtgkokjkoifdbnaaGreatGe
import Derived.Test.YtgkokjkoifdbnaaGreatKnReplicaBatchesD
import Derived.KernelRfl
/- What calls answer, run by the interpreter. -/
namespace Go.Proofs.YtgkokjkoifdbnaaGreat.knReplicaBatches
open Go.Am Go.Am.Fs Go.Am.KnReplicaBatches
set_option maxRecDepth 1000000
theorem k8 : isR (ownG' (withM T mmB) 100000 1000 85 false a8) r8 = true := by kernel_rfl
theorem k12 : isR (ownG' (withM T mmB) 100000 1000 194 true a12) r12 = true := by kernel_rfl
theorem k25 : isR (ownG' (withM T mmB) 100000 1000 90 false a25) r25 = true := by kernel_rfl
theorem k27 : isR (ownG' (withM T mmB) 100000 1000 85 false a27) r27 = true := by kernel_rfl
theorem k36 : isR (ownG' (withM T mmB) 100000 1000 22 false a36) r36 = true := by kernel_rfl
theorem k39 : isR (ownG' (withM T mmB) 100000 1000 90 false a39) r39 = true := by kernel_rfl
theorem k42 : isR (ownG' (withM T mmB) 100000 1000 194 true a42) r42 = true := by kernel_rfl
theorem k50 : isR (ownG' (withM T mmB) 100000 1000 22 false a50) r50 = true := by kernel_rfl
theorem k55 : isR (ownG' (withM T mmB) 100000 1000 85 false a55) r55 = true := by kernel_rfl
theorem k56 : isR (ownG' (withM T mmB) 100000 1000 194 true a56) r56 = true := by kernel_rfl
theorem k64 : isR (ownG' (withM T mmB) 100000 1000 22 false a64) r64 = true := by kernel_rfl
theorem k67 : isR (ownG' (withM T mmB) 100000 1000 90 false a67) r67 = true := by kernel_rfl
theorem k83 : isR (ownG' (withM T mmB) 100000 1000 85 false a83) r83 = true := by kernel_rfl
theorem k92 : isR (ownG' (withM T mmB) 100000 1000 22 false a92) r92 = true := by kernel_rfl
theorem k98 : isR (ownG' (withM T mmB) 100000 1000 194 true a98) r98 = true := by kernel_rfl
theorem k109 : isR (ownG' (withM T mmB) 100000 1000 90 false a109) r109 = true := by kernel_rfl
theorem k111 : isR (ownG' (withM T mmB) 100000 1000 85 false a111) r111 = true := by kernel_rfl
theorem k112 : isR (ownG' (withM T mmB) 100000 1000 194 true a112) r112 = true := by kernel_rfl
theorem k120 : isR (ownG' (withM T mmB) 100000 1000 22 false a120) r120 = true := by kernel_rfl
theorem k140 : isR (ownG' (withM T mmB) 100000 1000 90 false a140) r140 = true := by kernel_rfl
theorem k142 : isR (ownG' (withM T mmB) 100000 1000 85 false a142) r142 = true := by kernel_rfl
theorem k155 : isR (ownG' (withM T mmB) 100000 1000 90 false a155) r155 = true := by kernel_rfl
theorem k158 : isR (ownG' (withM T mmB) 100000 1000 194 true a158) r158 = true := by kernel_rfl
theorem k172 : isR (ownG' (withM T mmB) 100000 1000 85 false a172) r172 = true := by kernel_rfl
theorem k182 : isR (ownG' (withM T mmB) 100000 1000 22 false a182) r182 = true := by kernel_rfl
theorem k185 : isR (ownG' (withM T mmB) 100000 1000 90 false a185) r185 = true := by kernel_rfl
theorem k188 : isR (ownG' (withM T mmB) 100000 1000 194 true a188) r188 = true := by kernel_rfl
theorem k197 : isR (ownG' (withM T mmB) 100000 1000 22 false a197) r197 = true := by kernel_rfl
theorem k202 : isR (ownG' (withM T mmB) 100000 1000 85 false a202) r202 = true := by kernel_rfl
theorem k203 : isR (ownG' (withM T mmB) 100000 1000 194 true a203) r203 = true := by kernel_rfl
theorem k227 : isR (ownG' (withM T mmB) 100000 1000 22 false a227) r227 = true := by kernel_rfl
theorem k230 : isR (ownG' (withM T mmB) 100000 1000 90 false a230) r230 = true := by kernel_rfl
theorem k232 : isR (ownG' (withM T mmB) 100000 1000 85 false a232) r232 = true := by kernel_rfl
theorem k248 : isR (ownG' (withM T mmB) 100000 1000 194 true a248) r248 = true := by kernel_rfl
theorem k263 : isR (ownG' (withM T mmB) 100000 1000 90 false a263) r263 = true := by kernel_rfl
theorem k265 : isR (ownG' (withM T mmB) 100000 1000 85 false a265) r265 = true := by kernel_rfl
theorem k266 : isR (ownG' (withM T mmB) 100000 1000 194 true a266) r266 = true := by kernel_rfl
theorem k279 : isR (ownG' (withM T mmB) 100000 1000 90 false a279) r279 = true := by kernel_rfl
theorem k297 : isR (ownG' (withM T mmB) 100000 1000 85 false a297) r297 = true := by kernel_rfl
theorem k298 : isR (ownG' (withM T mmB) 100000 1000 194 true a298) r298 = true := by kernel_rfl
theorem k308 : isR (ownG' (withM T mmB) 100000 1000 22 false a308) r308 = true := by kernel_rfl
theorem k311 : isR (ownG' (withM T mmB) 100000 1000 90 false a311) r311 = true := by kernel_rfl
theorem k324 : isR (ownG' (withM T mmB) 100000 1000 22 false a324) r324 = true := by kernel_rfl
theorem k329 : isR (ownG' (withM T mmB) 100000 1000 85 false a329) r329 = true := by kernel_rfl
theorem k340 : isR (ownG' (withM T mmB) 100000 1000 22 false a340) r340 = true := by kernel_rfl
theorem k346 : isR (ownG' (withM T mmB) 100000 1000 194 true a346) r346 = true := by kernel_rfl
theorem k356 : isR (ownG' (withM T mmB) 100000 1000 22 false a356) r356 = true := by kernel_rfl
theorem k359 : isR (ownG' (withM T mmB) 100000 1000 90 false a359) r359 = true := by kernel_rfl
end Go.Proofs.YtgkokjkoifdbnaaGreat.knReplicaBatches
