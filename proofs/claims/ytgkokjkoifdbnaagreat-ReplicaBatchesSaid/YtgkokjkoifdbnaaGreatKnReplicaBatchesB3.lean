import Derived.Test.YtgkokjkoifdbnaaGreatKnReplicaBatchesA
import Derived.Test.YtgkokjkoifdbnaaGreatGe
import Derived.Test.YtgkokjkoifdbnaaGreatKnReplicaBatchesD
import Derived.KernelRfl
/- What calls answer, run by the interpreter. -/
namespace Go.Proofs.YtgkokjkoifdbnaaGreat.knReplicaBatches
open Go.Am Go.Am.Fs Go.Am.KnReplicaBatches
set_option maxRecDepth 1000000
theorem k14 : isR (ownG' (withM T mA) 100000 1000 48 false a14) r14 = true := by kernel_rfl
theorem k20 : isR (ownG' (withM T mA) 100000 1000 96 false a20) r20 = true := by kernel_rfl
theorem k37 : isR (ownG' (withM T mA) 100000 1000 96 false a37) r37 = true := by kernel_rfl
theorem k47 : isR (ownG' (withM T mA) 100000 1000 24 false a47) r47 = true := by kernel_rfl
theorem k75 : isR (ownG' (withM T mA) 100000 1000 24 false a75) r75 = true := by kernel_rfl
theorem k79 : isR (ownG' (withM T mA) 100000 1000 96 false a79) r79 = true := by kernel_rfl
theorem k89 : isR (ownG' (withM T mA) 100000 1000 24 false a89) r89 = true := by kernel_rfl
theorem k90 : isR (ownG' (withM T mA) 100000 1000 96 false a90) r90 = true := by kernel_rfl
theorem k103 : isR (ownG' (withM T mA) 100000 1000 24 false a103) r103 = true := by kernel_rfl
theorem k132 : isR (ownG' (withM T mA) 100000 1000 24 false a132) r132 = true := by kernel_rfl
theorem k138 : isR (ownG' (withM T mA) 100000 1000 96 false a138) r138 = true := by kernel_rfl
theorem k149 : isR (ownG' (withM T mA) 100000 1000 24 false a149) r149 = true := by kernel_rfl
theorem k160 : isR (ownG' (withM T mA) 100000 1000 48 false a160) r160 = true := by kernel_rfl
theorem k198 : isR (ownG' (withM T mA) 100000 1000 96 false a198) r198 = true := by kernel_rfl
theorem k235 : isR (ownG' (withM T mA) 100000 1000 48 false a235) r235 = true := by kernel_rfl
theorem k261 : isR (ownG' (withM T mA) 100000 1000 96 false a261) r261 = true := by kernel_rfl
theorem k274 : isR (ownG' (withM T mA) 100000 1000 96 false a274) r274 = true := by kernel_rfl
theorem k284 : isR (ownG' (withM T mA) 100000 1000 48 false a284) r284 = true := by kernel_rfl
theorem k289 : isR (ownG' (withM T mA) 100000 1000 24 false a289) r289 = true := by kernel_rfl
theorem k321 : isR (ownG' (withM T mA) 100000 1000 24 false a321) r321 = true := by kernel_rfl
theorem k325 : isR (ownG' (withM T mA) 100000 1000 96 false a325) r325 = true := by kernel_rfl
theorem k332 : isR (ownG' (withM T mA) 100000 1000 48 false a332) r332 = true := by kernel_rfl
theorem k353 : isR (ownG' (withM T mA) 100000 1000 24 false a353) r353 = true := by kernel_rfl
theorem k354 : isR (ownG' (withM T mA) 100000 1000 96 false a354) r354 = true := by kernel_rfl
end Go.Proofs.YtgkokjkoifdbnaaGreat.knReplicaBatches
