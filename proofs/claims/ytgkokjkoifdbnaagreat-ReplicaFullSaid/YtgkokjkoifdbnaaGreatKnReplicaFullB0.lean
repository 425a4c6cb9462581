import Derived.Test.YtgkokjkoifdbnaaGreatKnReplicaFullA
import Derived.Test.YtgkokjkoifdbnaaGreatGe
import Derived.Test.YtgkokjkoifdbnaaGreatKnReplicaFullD
import Derived.KernelRfl
/- What calls answer, run by the interpreter. -/
namespace Go.Proofs.YtgkokjkoifdbnaaGreat.knReplicaFull
open Go.Am Go.Am.Fs Go.Am.KnReplicaFull
set_option maxRecDepth 1000000
theorem k0 : isR (ownG' (withM T mA) 100000 1000 48 false a0) r0 = true := by kernel_rfl
theorem k25 : isR (ownG' (withM T mA) 100000 1000 48 false a25) r25 = true := by kernel_rfl
theorem k30 : isR (ownG' (withM T mA) 100000 1000 48 false a30) r30 = true := by kernel_rfl
theorem k50 : isR (ownG' (withM T mA) 100000 1000 48 false a50) r50 = true := by kernel_rfl
theorem k85 : isR (ownG' (withM T mA) 100000 1000 48 false a85) r85 = true := by kernel_rfl
theorem k100 : isR (ownG' (withM T mA) 100000 1000 48 false a100) r100 = true := by kernel_rfl
theorem k115 : isR (ownG' (withM T mA) 100000 1000 48 false a115) r115 = true := by kernel_rfl
theorem k145 : isR (ownG' (withM T mA) 100000 1000 48 false a145) r145 = true := by kernel_rfl
theorem k150 : isR (ownG' (withM T mA) 100000 1000 48 false a150) r150 = true := by kernel_rfl
theorem k185 : isR (ownG' (withM T mA) 100000 1000 48 false a185) r185 = true := by kernel_rfl
theorem k190 : isR (ownG' (withM T mA) 100000 1000 48 false a190) r190 = true := by kernel_rfl
theorem k210 : isR (ownG' (withM T mA) 100000 1000 48 false a210) r210 = true := by kernel_rfl
theorem k247 : isR (ownG' (withM T mA) 100000 1000 48 false a247) r247 = true := by kernel_rfl
end Go.Proofs.YtgkokjkoifdbnaaGreat.knReplicaFull
