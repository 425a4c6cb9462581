import Derived.Test.YtgkokjkoifdbnaaGreatKnReplicaFullA
import Derived.Test.YtgkokjkoifdbnaaGreatGe
import Derived.Test.YtgkokjkoifdbnaaGreatKnReplicaFullD
import Derived.KernelRfl
/- What calls answer, run by the interpreter. -/
namespace Go.Proofs.YtgkokjkoifdbnaaGreat.knReplicaFull
open Go.Am Go.Am.Fs Go.Am.KnReplicaFull
set_option maxRecDepth 1000000
theorem k5 : isR (ownG' (withM T mA) 100000 1000 48 false a5) r5 = true := by kernel_rfl
theorem k20 : isR (ownG' (withM T mA) 100000 1000 48 false a20) r20 = true := by kernel_rfl
theorem k35 : isR (ownG' (withM T mA) 100000 1000 48 false a35) r35 = true := by kernel_rfl
theorem k55 : isR (ownG' (withM T mA) 100000 1000 48 false a55) r55 = true := by kernel_rfl
theorem k80 : isR (ownG' (withM T mA) 100000 1000 48 false a80) r80 = true := by kernel_rfl
theorem k95 : isR (ownG' (withM T mA) 100000 1000 48 false a95) r95 = true := by kernel_rfl
theorem k120 : isR (ownG' (withM T mA) 100000 1000 48 false a120) r120 = true := by kernel_rfl
theorem k135 : isR (ownG' (withM T mA) 100000 1000 48 false a135) r135 = true := by kernel_rfl
theorem k160 : isR (ownG' (withM T mA) 100000 1000 48 false a160) r160 = true := by kernel_rfl
theorem k175 : isR (ownG' (withM T mA) 100000 1000 48 false a175) r175 = true := by kernel_rfl
theorem k200 : isR (ownG' (withM T mA) 100000 1000 48 false a200) r200 = true := by kernel_rfl
theorem k220 : isR (ownG' (withM T mA) 100000 1000 48 false a220) r220 = true := by kernel_rfl
theorem k235 : isR (ownG' (withM T mA) 100000 1000 48 false a235) r235 = true := by kernel_rfl
end Go.Proofs.YtgkokjkoifdbnaaGreat.knReplicaFull
