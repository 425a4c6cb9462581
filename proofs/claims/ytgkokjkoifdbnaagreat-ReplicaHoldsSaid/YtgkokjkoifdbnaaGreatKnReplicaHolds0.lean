import Derived.Test.YtgkokjkoifdbnaaGreatTab
import Derived.Test.YtgkokjkoifdbnaaGreatFast2
import Derived.Test.YtgkokjkoifdbnaaGreatMemo2
import Derived.Test.YtgkokjkoifdbnaaGreatKnReplicaHoldsD
import Derived.KernelRfl
/- What calls answer, run by the interpreter. -/
namespace Go.Proofs.YtgkokjkoifdbnaaGreat.knReplicaHolds
open Go.Am Go.Am.Fs Go.Am.KnReplicaHolds
set_option maxRecDepth 1000000
theorem k0 : isR (ownAF (withM T (lookM [])) 100000 22 true a0) r0 = true := by kernel_rfl
theorem k1 : isR (ownAF (withM T (lookM [])) 100000 23 false a1) r1 = true := by kernel_rfl
theorem k2 : isR (ownAF (withM T (lookM [])) 100000 22 true a2) r2 = true := by kernel_rfl
theorem k3 : isR (ownAF (withM T (lookM [])) 100000 23 false a3) r3 = true := by kernel_rfl
theorem k4 : isR (ownAF (withM T (lookM [])) 100000 22 true a4) r4 = true := by kernel_rfl
theorem k5 : isR (ownAF (withM T (lookM [])) 100000 23 false a5) r5 = true := by kernel_rfl
theorem k6 : isR (ownAF (withM T (lookM [])) 100000 22 true a6) r6 = true := by kernel_rfl
theorem k7 : isR (ownAF (withM T (lookM [])) 100000 23 false a7) r7 = true := by kernel_rfl
theorem k8 : isR (ownAF (withM T (lookM [])) 100000 22 true a8) r8 = true := by kernel_rfl
theorem k9 : isR (ownAF (withM T (lookM [])) 100000 23 false a9) r9 = true := by kernel_rfl
theorem k10 : isR (ownAF (withM T (lookM [])) 100000 22 true a10) r10 = true := by kernel_rfl
end Go.Proofs.YtgkokjkoifdbnaaGreat.knReplicaHolds
