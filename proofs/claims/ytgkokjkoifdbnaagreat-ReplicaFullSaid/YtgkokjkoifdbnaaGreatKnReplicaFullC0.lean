import Derived.Test.YtgkokjkoifdbnaaGreatKnReplicaFullB
import Derived.Test.YtgkokjkoifdbnaaGreatGe
import Derived.Test.YtgkokjkoifdbnaaGreatKnReplicaFullD
import Derived.KernelRfl
/- What calls answer, run by the interpreter. -/
namespace Go.Proofs.YtgkokjkoifdbnaaGreat.knReplicaFull
open Go.Am Go.Am.Fs Go.Am.KnReplicaFull
set_option maxRecDepth 1000000
theorem k4 : isR (ownG' (withM T mB) 100000 1000 42 false a4) r4 = true := by kernel_rfl
theorem k14 : isR (ownG' (withM T mB) 100000 1000 42 false a14) r14 = true := by kernel_rfl
theorem k24 : isR (ownG' (withM T mB) 100000 1000 42 false a24) r24 = true := by kernel_rfl
theorem k34 : isR (ownG' (withM T mB) 100000 1000 42 false a34) r34 = true := by kernel_rfl
theorem k46 : isR (ownG' (withM T mB) 100000 1000 41 false a46) r46 = true := by kernel_rfl
theorem k49 : isR (ownG' (withM T mB) 100000 1000 42 false a49) r49 = true := by kernel_rfl
theorem k64 : isR (ownG' (withM T mB) 100000 1000 42 false a64) r64 = true := by kernel_rfl
theorem k76 : isR (ownG' (withM T mB) 100000 1000 41 false a76) r76 = true := by kernel_rfl
theorem k91 : isR (ownG' (withM T mB) 100000 1000 41 false a91) r91 = true := by kernel_rfl
theorem k96 : isR (ownG' (withM T mB) 100000 1000 41 false a96) r96 = true := by kernel_rfl
theorem k104 : isR (ownG' (withM T mB) 100000 1000 42 false a104) r104 = true := by kernel_rfl
theorem k116 : isR (ownG' (withM T mB) 100000 1000 41 false a116) r116 = true := by kernel_rfl
theorem k124 : isR (ownG' (withM T mB) 100000 1000 42 false a124) r124 = true := by kernel_rfl
theorem k139 : isR (ownG' (withM T mB) 100000 1000 42 false a139) r139 = true := by kernel_rfl
theorem k149 : isR (ownG' (withM T mB) 100000 1000 42 false a149) r149 = true := by kernel_rfl
theorem k159 : isR (ownG' (withM T mB) 100000 1000 42 false a159) r159 = true := by kernel_rfl
theorem k166 : isR (ownG' (withM T mB) 100000 1000 41 false a166) r166 = true := by kernel_rfl
theorem k174 : isR (ownG' (withM T mB) 100000 1000 42 false a174) r174 = true := by kernel_rfl
theorem k181 : isR (ownG' (withM T mB) 100000 1000 41 false a181) r181 = true := by kernel_rfl
theorem k199 : isR (ownG' (withM T mB) 100000 1000 42 false a199) r199 = true := by kernel_rfl
theorem k201 : isR (ownG' (withM T mB) 100000 1000 41 false a201) r201 = true := by kernel_rfl
theorem k216 : isR (ownG' (withM T mB) 100000 1000 41 false a216) r216 = true := by kernel_rfl
theorem k219 : isR (ownG' (withM T mB) 100000 1000 42 false a219) r219 = true := by kernel_rfl
theorem k234 : isR (ownG' (withM T mB) 100000 1000 42 false a234) r234 = true := by kernel_rfl
theorem k248 : isR (ownG' (withM T mB) 100000 1000 41 false a248) r248 = true := by kernel_rfl
end Go.Proofs.YtgkokjkoifdbnaaGreat.knReplicaFull
