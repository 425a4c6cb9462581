import Derived.Test.YtgkokjkoifdbnaaGreatKnReplicaFullA
import Derived.Test.YtgkokjkoifdbnaaGreatGe
import Derived.Test.YtgkokjkoifdbnaaGreatKnReplicaFullD
import Derived.KernelRfl
/- What calls answer, run by the interpreter. -/
namespace Go.Proofs.YtgkokjkoifdbnaaGreat.knReplicaFull
open Go.Am Go.Am.Fs Go.Am.KnReplicaFull
set_option maxRecDepth 1000000
theorem k15 : isR (ownG' (withM T mA) 100000 1000 48 false a15) r15 = true := by kernel_rfl
theorem k40 : isR (ownG' (withM T mA) 100000 1000 48 false a40) r40 = true := by kernel_rfl
theorem k65 : isR (ownG' (withM T mA) 100000 1000 48 false a65) r65 = true := by kernel_rfl
theorem k70 : isR (ownG' (withM T mA) 100000 1000 48 false a70) r70 = true := by kernel_rfl
theorem k105 : isR (ownG' (withM T mA) 100000 1000 48 false a105) r105 = true := by kernel_rfl
theorem k110 : isR (ownG' (withM T mA) 100000 1000 48 false a110) r110 = true := by kernel_rfl
theorem k130 : isR (ownG' (withM T mA) 100000 1000 48 false a130) r130 = true := by kernel_rfl
theorem k165 : isR (ownG' (withM T mA) 100000 1000 48 false a165) r165 = true := by kernel_rfl
theorem k180 : isR (ownG' (withM T mA) 100000 1000 48 false a180) r180 = true := by kernel_rfl
theorem k195 : isR (ownG' (withM T mA) 100000 1000 48 false a195) r195 = true := by kernel_rfl
theorem k215 : isR (ownG' (withM T mA) 100000 1000 48 false a215) r215 = true := by kernel_rfl
theorem k240 : isR (ownG' (withM T mA) 100000 1000 48 false a240) r240 = true := by kernel_rfl
end Go.Proofs.YtgkokjkoifdbnaaGreat.knReplicaFull
