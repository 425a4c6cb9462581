import Derived.Test.YtgkokjkoifdbnaaGreatTab
import Derived.Test.YtgkokjkoifdbnaaGreatFast2
import Derived.Test.YtgkokjkoifdbnaaGreatMemo2
import Derived.Test.YtgkokjkoifdbnaaGreatKnReplicaHoldsD
import Derived.KernelRfl
/- What calls answer, run by the interpreter. -/
namespace Go.Proofs.YtgkokjkoifdbnaaGreat.knReplicaHolds
open Go.Am Go.Am.Fs Go.Am.KnReplicaHolds
set_option maxRecDepth 1000000
theorem k31 : isR (ownAF (withM T (lookM [])) 100000 23 false a31) r31 = true := by kernel_rfl
theorem k32 : isR (ownAF (withM T (lookM [])) 100000 22 true a32) r32 = true := by kernel_rfl
theorem k33 : isR (ownAF (withM T (lookM [])) 100000 23 false a33) r33 = true := by kernel_rfl
theorem k34 : isR (ownAF (withM T (lookM [])) 100000 22 true a34) r34 = true := by kernel_rfl
end Go.Proofs.YtgkokjkoifdbnaaGreat.knReplicaHolds
