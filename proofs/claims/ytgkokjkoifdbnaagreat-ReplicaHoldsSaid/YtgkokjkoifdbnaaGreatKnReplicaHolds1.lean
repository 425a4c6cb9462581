import Derived.Test.YtgkokjkoifdbnaaGreatTab
import Derived.Test.YtgkokjkoifdbnaaGreatFast2
import Derived.Test.YtgkokjkoifdbnaaGreatMemo2
import Derived.Test.YtgkokjkoifdbnaaGreatKnReplicaHoldsD
import Derived.KernelRfl
/- What calls answer, run by the interpreter. -/
namespace Go.Proofs.YtgkokjkoifdbnaaGreat.knReplicaHolds
open Go.Am Go.Am.Fs Go.Am.KnReplicaHolds
set_option maxRecDepth 1000000
theorem k11 : isR (ownAF (withM T (lookM [])) 100000 23 false a11) r11 = true := by kernel_rfl
theorem k12 : isR (ownAF (withM T (lookM [])) 100000 22 true a12) r12 = true := by kernel_rfl
theorem k13 : isR (ownAF (withM T (lookM [])) 100000 23 false a13) r13 = true := by kernel_rfl
theorem k14 : isR (ownAF (withM T (lookM [])) 100000 22 true a14) r14 = true := by kernel_rfl
theorem k15 : isR (ownAF (withM T (lookM [])) 100000 23 false a15) r15 = true := by kernel_rfl
theorem k16 : isR (ownAF (withM T (lookM [])) 100000 22 true a16) r16 = true := by kernel_rfl
theorem k17 : isR (ownAF (withM T (lookM [])) 100000 23 false a17) r17 = true := by kernel_rfl
theorem k18 : isR (ownAF (withM T (lookM [])) 100000 22 true a18) r18 = true := by kernel_rfl
end Go.Proofs.YtgkokjkoifdbnaaGreat.knReplicaHolds
