import Derived.Test.YtgkokjkoifdbnaaGreatKnReplicaFullA
import Derived.Test.YtgkokjkoifdbnaaGreatGe
import Derived.Test.YtgkokjkoifdbnaaGreatKnReplicaFullD
import Derived.KernelRfl
/- What calls answer, run by the interpreter. -/
namespace Go.Proofs.YtgkokjkoifdbnaaGreat.knReplicaFull
open Go.Am Go.Am.Fs Go.Am.KnReplicaFull
set_option maxRecDepth 1000000
theorem k10 : isR (ownG' (withM T mA) 100000 1000 48 false a10) r10 = true := by kernel_rfl
theorem k45 : isR (ownG' (withM T mA) 100000 1000 48 false a45) r45 = true := by kernel_rfl
theorem k60 : isR (ownG' (withM T mA) 100000 1000 48 false a60) r60 = true := by kernel_rfl
theorem k75 : isR (ownG' (withM T mA) 100000 1000 48 false a75) r75 = true := by kernel_rfl
theorem k90 : isR (ownG' (withM T mA) 100000 1000 48 false a90) r90 = true := by kernel_rfl
theorem k125 : isR (ownG' (withM T mA) 100000 1000 48 false a125) r125 = true := by kernel_rfl
theorem k140 : isR (ownG' (withM T mA) 100000 1000 48 false a140) r140 = true := by kernel_rfl
theorem k155 : isR (ownG' (withM T mA) 100000 1000 48 false a155) r155 = true := by kernel_rfl
theorem k170 : isR (ownG' (withM T mA) 100000 1000 48 false a170) r170 = true := by kernel_rfl
theorem k205 : isR (ownG' (withM T mA) 100000 1000 48 false a205) r205 = true := by kernel_rfl
theorem k225 : isR (ownG' (withM T mA) 100000 1000 48 false a225) r225 = true := by kernel_rfl
theorem k230 : isR (ownG' (withM T mA) 100000 1000 48 false a230) r230 = true := by kernel_rfl
end Go.Proofs.YtgkokjkoifdbnaaGreat.knReplicaFull
