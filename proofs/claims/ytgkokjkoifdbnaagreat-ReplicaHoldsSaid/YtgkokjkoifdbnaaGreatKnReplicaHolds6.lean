import Derived.Test.YtgkokjkoifdbnaaGreatTab
import Derived.Test.YtgkokjkoifdbnaaGreatFast2
import Derived.Test.YtgkokjkoifdbnaaGreatMemo2
import Derived.Test.YtgkokjkoifdbnaaGreatKnReplicaHoldsD
import Derived.KernelRfl
/- What calls answer, run by the interpreter. -/
namespace Go.Proofs.YtgkokjkoifdbnaaGreat.knReplicaHolds
open Go.Am Go.Am.Fs Go.Am.KnReplicaHolds
set_option maxRecDepth 1000000
theorem k37 : isR (ownAF (withM T (lookM [])) 100000 23 false a37) r37 = true := by kernel_rfl
end Go.Proofs.YtgkokjkoifdbnaaGreat.knReplicaHolds
