import Derived.Test.YtgkokjkoifdbnaaGreatTab
import Derived.Test.YtgkokjkoifdbnaaGreatFast2
import Derived.Test.YtgkokjkoifdbnaaGreatMemo2
import Derived.Test.YtgkokjkoifdbnaaGreatKnReplicaHoldsD
import Derived.KernelRfl
/- What calls answer, run by the interpreter. -/
namespace Go.Proofs.YtgkokjkoifdbnaaGreat.knReplicaHolds
open Go.Am Go.Am.Fs Go.Am.KnReplicaHolds
set_option maxRecDepth 1000000
theorem k19 : isR (ownAF (withM T (lookM [])) 100000 23 false a19) r19 = true := by kernel_rfl
theorem k20 : isR (ownAF (withM T (lookM [])) 100000 22 true a20) r20 = true := by kernel_rfl
theorem k21 : isR (ownAF (withM T (lookM [])) 100000 23 false a21) r21 = true := by kernel_rfl
theorem k22 : isR (ownAF (withM T (lookM [])) 100000 22 true a22) r22 = true := by kernel_rfl
theorem k23 : isR (ownAF (withM T (lookM [])) 100000 23 false a23) r23 = true := by kernel_rfl
theorem k24 : isR (ownAF (withM T (lookM [])) 100000 22 true a24) r24 = true := by kernel_rfl
end Go.Proofs.YtgkokjkoifdbnaaGreat.knReplicaHolds
