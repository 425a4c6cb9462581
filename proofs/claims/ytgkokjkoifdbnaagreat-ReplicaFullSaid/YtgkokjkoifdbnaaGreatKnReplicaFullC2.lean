import Derived.Test.YtgkokjkoifdbnaaGreatKnReplicaFullB
import Derived.Test.YtgkokjkoifdbnaaGreatGe
import Derived.Test.YtgkokjkoifdbnaaGreatKnReplicaFullD
import Derived.KernelRfl
/- What calls answer, run by the interpreter. -/
namespace Go.Proofs.YtgkokjkoifdbnaaGreat.knReplicaFull
open Go.Am Go.Am.Fs Go.Am.KnReplicaFull
set_option maxRecDepth 1000000
theorem k11 : isR (ownG' (withM T mB) 100000 1000 41 false a11) r11 = true := by kernel_rfl
theorem k21 : isR (ownG' (withM T mB) 100000 1000 41 false a21) r21 = true := by kernel_rfl
theorem k29 : isR (ownG' (withM T mB) 100000 1000 42 false a29) r29 = true := by kernel_rfl
theorem k31 : isR (ownG' (withM T mB) 100000 1000 41 false a31) r31 = true := by kernel_rfl
theorem k44 : isR (ownG' (withM T mB) 100000 1000 42 false a44) r44 = true := by kernel_rfl
theorem k56 : isR (ownG' (withM T mB) 100000 1000 41 false a56) r56 = true := by kernel_rfl
theorem k69 : isR (ownG' (withM T mB) 100000 1000 42 false a69) r69 = true := by kernel_rfl
theorem k71 : isR (ownG' (withM T mB) 100000 1000 41 false a71) r71 = true := by kernel_rfl
theorem k84 : isR (ownG' (withM T mB) 100000 1000 42 false a84) r84 = true := by kernel_rfl
theorem k89 : isR (ownG' (withM T mB) 100000 1000 42 false a89) r89 = true := by kernel_rfl
theorem k109 : isR (ownG' (withM T mB) 100000 1000 42 false a109) r109 = true := by kernel_rfl
theorem k111 : isR (ownG' (withM T mB) 100000 1000 41 false a111) r111 = true := by kernel_rfl
theorem k129 : isR (ownG' (withM T mB) 100000 1000 42 false a129) r129 = true := by kernel_rfl
theorem k134 : isR (ownG' (withM T mB) 100000 1000 42 false a134) r134 = true := by kernel_rfl
theorem k146 : isR (ownG' (withM T mB) 100000 1000 41 false a146) r146 = true := by kernel_rfl
theorem k154 : isR (ownG' (withM T mB) 100000 1000 42 false a154) r154 = true := by kernel_rfl
theorem k169 : isR (ownG' (withM T mB) 100000 1000 42 false a169) r169 = true := by kernel_rfl
theorem k179 : isR (ownG' (withM T mB) 100000 1000 42 false a179) r179 = true := by kernel_rfl
theorem k189 : isR (ownG' (withM T mB) 100000 1000 42 false a189) r189 = true := by kernel_rfl
theorem k191 : isR (ownG' (withM T mB) 100000 1000 41 false a191) r191 = true := by kernel_rfl
theorem k206 : isR (ownG' (withM T mB) 100000 1000 41 false a206) r206 = true := by kernel_rfl
theorem k209 : isR (ownG' (withM T mB) 100000 1000 42 false a209) r209 = true := by kernel_rfl
theorem k221 : isR (ownG' (withM T mB) 100000 1000 41 false a221) r221 = true := by kernel_rfl
theorem k236 : isR (ownG' (withM T mB) 100000 1000 41 false a236) r236 = true := by kernel_rfl
theorem k239 : isR (ownG' (withM T mB) 100000 1000 42 false a239) r239 = true := by kernel_rfl
end Go.Proofs.YtgkokjkoifdbnaaGreat.knReplicaFull
