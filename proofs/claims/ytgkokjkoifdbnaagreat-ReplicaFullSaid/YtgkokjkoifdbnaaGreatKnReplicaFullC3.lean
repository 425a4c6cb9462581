import Derived.Test.YtgkokjkoifdbnaaGreatKnReplicaFullB
import Derived.Test.YtgkokjkoifdbnaaGreatGe
import Derived.Test.YtgkokjkoifdbnaaGreatKnReplicaFullD
import Derived.KernelRfl
/- What calls answer, run by the interpreter. -/
namespace Go.Proofs.YtgkokjkoifdbnaaGreat.knReplicaFull
open Go.Am Go.Am.Fs Go.Am.KnReplicaFull
set_option maxRecDepth 1000000
theorem k9 : isR (ownG' (withM T mB) 100000 1000 42 false a9) r9 = true := by kernel_rfl
theorem k16 : isR (ownG' (withM T mB) 100000 1000 41 false a16) r16 = true := by kernel_rfl
theorem k36 : isR (ownG' (withM T mB) 100000 1000 41 false a36) r36 = true := by kernel_rfl
theorem k39 : isR (ownG' (withM T mB) 100000 1000 42 false a39) r39 = true := by kernel_rfl
theorem k41 : isR (ownG' (withM T mB) 100000 1000 41 false a41) r41 = true := by kernel_rfl
theorem k54 : isR (ownG' (withM T mB) 100000 1000 42 false a54) r54 = true := by kernel_rfl
theorem k66 : isR (ownG' (withM T mB) 100000 1000 41 false a66) r66 = true := by kernel_rfl
theorem k79 : isR (ownG' (withM T mB) 100000 1000 42 false a79) r79 = true := by kernel_rfl
theorem k81 : isR (ownG' (withM T mB) 100000 1000 41 false a81) r81 = true := by kernel_rfl
theorem k101 : isR (ownG' (withM T mB) 100000 1000 41 false a101) r101 = true := by kernel_rfl
theorem k106 : isR (ownG' (withM T mB) 100000 1000 41 false a106) r106 = true := by kernel_rfl
theorem k114 : isR (ownG' (withM T mB) 100000 1000 42 false a114) r114 = true := by kernel_rfl
theorem k126 : isR (ownG' (withM T mB) 100000 1000 41 false a126) r126 = true := by kernel_rfl
theorem k131 : isR (ownG' (withM T mB) 100000 1000 41 false a131) r131 = true := by kernel_rfl
theorem k144 : isR (ownG' (withM T mB) 100000 1000 42 false a144) r144 = true := by kernel_rfl
theorem k156 : isR (ownG' (withM T mB) 100000 1000 41 false a156) r156 = true := by kernel_rfl
theorem k161 : isR (ownG' (withM T mB) 100000 1000 41 false a161) r161 = true := by kernel_rfl
theorem k171 : isR (ownG' (withM T mB) 100000 1000 41 false a171) r171 = true := by kernel_rfl
theorem k186 : isR (ownG' (withM T mB) 100000 1000 41 false a186) r186 = true := by kernel_rfl
theorem k194 : isR (ownG' (withM T mB) 100000 1000 42 false a194) r194 = true := by kernel_rfl
theorem k214 : isR (ownG' (withM T mB) 100000 1000 42 false a214) r214 = true := by kernel_rfl
theorem k224 : isR (ownG' (withM T mB) 100000 1000 42 false a224) r224 = true := by kernel_rfl
theorem k226 : isR (ownG' (withM T mB) 100000 1000 41 false a226) r226 = true := by kernel_rfl
theorem k231 : isR (ownG' (withM T mB) 100000 1000 41 false a231) r231 = true := by kernel_rfl
theorem k243 : isR (ownG' (withM T mB) 100000 1000 42 false a243) r243 = true := by kernel_rfl
end Go.Proofs.YtgkokjkoifdbnaaGreat.knReplicaFull
