import Derived.Test.YtgkokjkoifdbnaaGreatTab
import Derived.Test.YtgkokjkoifdbnaaGreatFast2
import Derived.Test.YtgkokjkoifdbnaaGreatMemo2
import Derived.Test.YtgkokjkoifdbnaaGreatKnReplicaHoldsD
import Derived.KernelRfl
/- What calls answer, run by the interpreter. -/
namespace Go.Proofs.YtgkokjkoifdbnaaGreat.knReplicaHolds
open Go.Am Go.Am.Fs Go.Am.KnReplicaHolds
set_option maxRecDepth 1000000
theorem k25 : isR (ownAF (withM T (lookM [])) 100000 23 false a25) r25 = true := by kernel_rfl
theorem k26 : isR (ownAF (withM T (lookM [])) 100000 22 true a26) r26 = true := by kernel_rfl
theorem k27 : isR (ownAF (withM T (lookM [])) 100000 23 false a27) r27 = true := by kernel_rfl
theorem k28 : isR (ownAF (withM T (lookM [])) 100000 22 true a28) r28 = true := by kernel_rfl
theorem k29 : isR (ownAF (withM T (lookM [])) 100000 23 false a29) r29 = true := by kernel_rfl
theorem k30 : isR (ownAF (withM T (lookM [])) 100000 22 true a30) r30 = true := by kernel_rfl
end Go.Proofs.YtgkokjkoifdbnaaGreat.knReplicaHolds
