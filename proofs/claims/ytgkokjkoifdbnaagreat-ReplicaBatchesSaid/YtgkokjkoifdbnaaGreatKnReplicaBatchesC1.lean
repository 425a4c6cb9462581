import Derived.Test.YtgkokjkoifdbnaaGreatKnReplicaBatchesB
import Derived.Test.YtgkokjkoifdbnaaGreatGe
import Derived.Test.YtgkokjkoifdbnaaGreatKnReplicaBatchesD
import Derived.KernelRfl
/- What calls answer, run by the interpreter. -/
namespace Go.Proofs.YtgkokjkoifdbnaaGreat.knReplicaBatches
open Go.Am Go.Am.Fs Go.Am.KnReplicaBatches
set_option maxRecDepth 1000000
theorem k4 : isR (ownG' (withM T mB) 100000 1000 60 false a4) r4 = true := by kernel_rfl
theorem k10 : isR (ownG' (withM T mB) 100000 1000 42 false a10) r10 = true := by kernel_rfl
theorem k16 : isR (ownG' (withM T mB) 100000 1000 60 false a16) r16 = true := by kernel_rfl
theorem k19 : isR (ownG' (withM T mB) 100000 1000 41 false a19) r19 = true := by kernel_rfl
theorem k21 : isR (ownG' (withM T mB) 100000 1000 60 false a21) r21 = true := by kernel_rfl
theorem k40 : isR (ownG' (withM T mB) 100000 1000 26 false a40) r40 = true := by kernel_rfl
theorem k43 : isR (ownG' (withM T mB) 100000 1000 42 false a43) r43 = true := by kernel_rfl
theorem k71 : isR (ownG' (withM T mB) 100000 1000 42 false a71) r71 = true := by kernel_rfl
theorem k82 : isR (ownG' (withM T mB) 100000 1000 26 false a82) r82 = true := by kernel_rfl
theorem k99 : isR (ownG' (withM T mB) 100000 1000 42 false a99) r99 = true := by kernel_rfl
theorem k101 : isR (ownG' (withM T mB) 100000 1000 41 false a101) r101 = true := by kernel_rfl
theorem k102 : isR (ownG' (withM T mB) 100000 1000 60 false a102) r102 = true := by kernel_rfl
theorem k105 : isR (ownG' (withM T mB) 100000 1000 60 false a105) r105 = true := by kernel_rfl
theorem k108 : isR (ownG' (withM T mB) 100000 1000 60 false a108) r108 = true := by kernel_rfl
theorem k110 : isR (ownG' (withM T mB) 100000 1000 26 false a110) r110 = true := by kernel_rfl
theorem k124 : isR (ownG' (withM T mB) 100000 1000 26 false a124) r124 = true := by kernel_rfl
theorem k130 : isR (ownG' (withM T mB) 100000 1000 60 false a130) r130 = true := by kernel_rfl
theorem k136 : isR (ownG' (withM T mB) 100000 1000 60 false a136) r136 = true := by kernel_rfl
theorem k148 : isR (ownG' (withM T mB) 100000 1000 60 false a148) r148 = true := by kernel_rfl
theorem k151 : isR (ownG' (withM T mB) 100000 1000 60 false a151) r151 = true := by kernel_rfl
theorem k176 : isR (ownG' (withM T mB) 100000 1000 41 false a176) r176 = true := by kernel_rfl
theorem k177 : isR (ownG' (withM T mB) 100000 1000 60 false a177) r177 = true := by kernel_rfl
theorem k199 : isR (ownG' (withM T mB) 100000 1000 60 false a199) r199 = true := by kernel_rfl
theorem k201 : isR (ownG' (withM T mB) 100000 1000 26 false a201) r201 = true := by kernel_rfl
theorem k206 : isR (ownG' (withM T mB) 100000 1000 41 false a206) r206 = true := by kernel_rfl
theorem k207 : isR (ownG' (withM T mB) 100000 1000 60 false a207) r207 = true := by kernel_rfl
theorem k226 : isR (ownG' (withM T mB) 100000 1000 60 false a226) r226 = true := by kernel_rfl
theorem k241 : isR (ownG' (withM T mB) 100000 1000 60 false a241) r241 = true := by kernel_rfl
theorem k249 : isR (ownG' (withM T mB) 100000 1000 42 false a249) r249 = true := by kernel_rfl
theorem k252 : isR (ownG' (withM T mB) 100000 1000 60 false a252) r252 = true := by kernel_rfl
theorem k257 : isR (ownG' (withM T mB) 100000 1000 41 false a257) r257 = true := by kernel_rfl
theorem k264 : isR (ownG' (withM T mB) 100000 1000 26 false a264) r264 = true := by kernel_rfl
theorem k278 : isR (ownG' (withM T mB) 100000 1000 60 false a278) r278 = true := by kernel_rfl
theorem k283 : isR (ownG' (withM T mB) 100000 1000 42 false a283) r283 = true := by kernel_rfl
theorem k288 : isR (ownG' (withM T mB) 100000 1000 60 false a288) r288 = true := by kernel_rfl
theorem k291 : isR (ownG' (withM T mB) 100000 1000 60 false a291) r291 = true := by kernel_rfl
theorem k301 : isR (ownG' (withM T mB) 100000 1000 41 false a301) r301 = true := by kernel_rfl
theorem k304 : isR (ownG' (withM T mB) 100000 1000 60 false a304) r304 = true := by kernel_rfl
theorem k317 : isR (ownG' (withM T mB) 100000 1000 41 false a317) r317 = true := by kernel_rfl
theorem k334 : isR (ownG' (withM T mB) 100000 1000 60 false a334) r334 = true := by kernel_rfl
theorem k344 : isR (ownG' (withM T mB) 100000 1000 26 false a344) r344 = true := by kernel_rfl
theorem k350 : isR (ownG' (withM T mB) 100000 1000 60 false a350) r350 = true := by kernel_rfl
end Go.Proofs.YtgkokjkoifdbnaaGreat.knReplicaBatches
