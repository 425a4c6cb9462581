import Derived.Test.YtgkokjkoifdbnaaGreatKnReplicaBatchesB
import Derived.Test.YtgkokjkoifdbnaaGreatGe
import Derived.Test.YtgkokjkoifdbnaaGreatKnReplicaBatchesD
import Derived.KernelRfl
/- What calls answer, run by the interpreter. -/
namespace Go.Proofs.YtgkokjkoifdbnaaGreat.knReplicaBatches
open Go.Am Go.Am.Fs Go.Am.KnReplicaBatches
set_option maxRecDepth 1000000
theorem k5 : isR (ownG' (withM T mB) 100000 1000 26 false a5) r5 = true := by kernel_rfl
theorem k15 : isR (ownG' (withM T mB) 100000 1000 41 false a15) r15 = true := by kernel_rfl
theorem k29 : isR (ownG' (withM T mB) 100000 1000 42 false a29) r29 = true := by kernel_rfl
theorem k32 : isR (ownG' (withM T mB) 100000 1000 60 false a32) r32 = true := by kernel_rfl
theorem k38 : isR (ownG' (withM T mB) 100000 1000 60 false a38) r38 = true := by kernel_rfl
theorem k46 : isR (ownG' (withM T mB) 100000 1000 60 false a46) r46 = true := by kernel_rfl
theorem k54 : isR (ownG' (withM T mB) 100000 1000 26 false a54) r54 = true := by kernel_rfl
theorem k63 : isR (ownG' (withM T mB) 100000 1000 60 false a63) r63 = true := by kernel_rfl
theorem k66 : isR (ownG' (withM T mB) 100000 1000 60 false a66) r66 = true := by kernel_rfl
theorem k68 : isR (ownG' (withM T mB) 100000 1000 26 false a68) r68 = true := by kernel_rfl
theorem k73 : isR (ownG' (withM T mB) 100000 1000 41 false a73) r73 = true := by kernel_rfl
theorem k74 : isR (ownG' (withM T mB) 100000 1000 60 false a74) r74 = true := by kernel_rfl
theorem k85 : isR (ownG' (withM T mB) 100000 1000 42 false a85) r85 = true := by kernel_rfl
theorem k127 : isR (ownG' (withM T mB) 100000 1000 42 false a127) r127 = true := by kernel_rfl
theorem k139 : isR (ownG' (withM T mB) 100000 1000 60 false a139) r139 = true := by kernel_rfl
theorem k141 : isR (ownG' (withM T mB) 100000 1000 26 false a141) r141 = true := by kernel_rfl
theorem k144 : isR (ownG' (withM T mB) 100000 1000 42 false a144) r144 = true := by kernel_rfl
theorem k147 : isR (ownG' (withM T mB) 100000 1000 60 false a147) r147 = true := by kernel_rfl
theorem k159 : isR (ownG' (withM T mB) 100000 1000 42 false a159) r159 = true := by kernel_rfl
theorem k163 : isR (ownG' (withM T mB) 100000 1000 60 false a163) r163 = true := by kernel_rfl
theorem k166 : isR (ownG' (withM T mB) 100000 1000 60 false a166) r166 = true := by kernel_rfl
theorem k216 : isR (ownG' (withM T mB) 100000 1000 26 false a216) r216 = true := by kernel_rfl
theorem k219 : isR (ownG' (withM T mB) 100000 1000 42 false a219) r219 = true := by kernel_rfl
theorem k223 : isR (ownG' (withM T mB) 100000 1000 60 false a223) r223 = true := by kernel_rfl
theorem k237 : isR (ownG' (withM T mB) 100000 1000 60 false a237) r237 = true := by kernel_rfl
theorem k238 : isR (ownG' (withM T mB) 100000 1000 60 false a238) r238 = true := by kernel_rfl
theorem k244 : isR (ownG' (withM T mB) 100000 1000 60 false a244) r244 = true := by kernel_rfl
theorem k251 : isR (ownG' (withM T mB) 100000 1000 41 false a251) r251 = true := by kernel_rfl
theorem k259 : isR (ownG' (withM T mB) 100000 1000 60 false a259) r259 = true := by kernel_rfl
theorem k272 : isR (ownG' (withM T mB) 100000 1000 60 false a272) r272 = true := by kernel_rfl
theorem k275 : isR (ownG' (withM T mB) 100000 1000 60 false a275) r275 = true := by kernel_rfl
theorem k280 : isR (ownG' (withM T mB) 100000 1000 26 false a280) r280 = true := by kernel_rfl
theorem k285 : isR (ownG' (withM T mB) 100000 1000 41 false a285) r285 = true := by kernel_rfl
theorem k302 : isR (ownG' (withM T mB) 100000 1000 60 false a302) r302 = true := by kernel_rfl
theorem k303 : isR (ownG' (withM T mB) 100000 1000 60 false a303) r303 = true := by kernel_rfl
theorem k307 : isR (ownG' (withM T mB) 100000 1000 60 false a307) r307 = true := by kernel_rfl
theorem k315 : isR (ownG' (withM T mB) 100000 1000 42 false a315) r315 = true := by kernel_rfl
theorem k328 : isR (ownG' (withM T mB) 100000 1000 26 false a328) r328 = true := by kernel_rfl
theorem k333 : isR (ownG' (withM T mB) 100000 1000 41 false a333) r333 = true := by kernel_rfl
theorem k335 : isR (ownG' (withM T mB) 100000 1000 60 false a335) r335 = true := by kernel_rfl
theorem k339 : isR (ownG' (withM T mB) 100000 1000 60 false a339) r339 = true := by kernel_rfl
theorem k355 : isR (ownG' (withM T mB) 100000 1000 60 false a355) r355 = true := by kernel_rfl
end Go.Proofs.YtgkokjkoifdbnaaGreat.knReplicaBatches
