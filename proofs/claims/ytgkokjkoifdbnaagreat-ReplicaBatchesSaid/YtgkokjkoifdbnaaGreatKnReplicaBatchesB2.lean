import Derived.Test.YtgkokjkoifdbnaaGreatKnReplicaBatchesA
import Derived.Test.YtgkokjkoifdbnaaGreatGe
import Derived.Test.YtgkokjkoifdbnaaGreatKnReplicaBatchesD
import Derived.KernelRfl
/- What calls answer, run by the interpreter. -/
namespace Go.Proofs.YtgkokjkoifdbnaaGreat.knReplicaBatches
open Go.Am Go.Am.Fs Go.Am.KnReplicaBatches
set_option maxRecDepth 1000000
theorem k3 : isR (ownG' (withM T mA) 100000 1000 96 false a3) r3 = true := by kernel_rfl
theorem k34 : isR (ownG' (withM T mA) 100000 1000 96 false a34) r34 = true := by kernel_rfl
theorem k51 : isR (ownG' (withM T mA) 100000 1000 96 false a51) r51 = true := by kernel_rfl
theorem k100 : isR (ownG' (withM T mA) 100000 1000 48 false a100) r100 = true := by kernel_rfl
theorem k107 : isR (ownG' (withM T mA) 100000 1000 96 false a107) r107 = true := by kernel_rfl
theorem k117 : isR (ownG' (withM T mA) 100000 1000 24 false a117) r117 = true := by kernel_rfl
theorem k118 : isR (ownG' (withM T mA) 100000 1000 96 false a118) r118 = true := by kernel_rfl
theorem k145 : isR (ownG' (withM T mA) 100000 1000 48 false a145) r145 = true := by kernel_rfl
theorem k168 : isR (ownG' (withM T mA) 100000 1000 96 false a168) r168 = true := by kernel_rfl
theorem k175 : isR (ownG' (withM T mA) 100000 1000 48 false a175) r175 = true := by kernel_rfl
theorem k194 : isR (ownG' (withM T mA) 100000 1000 24 false a194) r194 = true := by kernel_rfl
theorem k209 : isR (ownG' (withM T mA) 100000 1000 24 false a209) r209 = true := by kernel_rfl
theorem k220 : isR (ownG' (withM T mA) 100000 1000 48 false a220) r220 = true := by kernel_rfl
theorem k224 : isR (ownG' (withM T mA) 100000 1000 24 false a224) r224 = true := by kernel_rfl
theorem k228 : isR (ownG' (withM T mA) 100000 1000 96 false a228) r228 = true := by kernel_rfl
theorem k250 : isR (ownG' (withM T mA) 100000 1000 48 false a250) r250 = true := by kernel_rfl
theorem k255 : isR (ownG' (withM T mA) 100000 1000 24 false a255) r255 = true := by kernel_rfl
theorem k258 : isR (ownG' (withM T mA) 100000 1000 96 false a258) r258 = true := by kernel_rfl
theorem k273 : isR (ownG' (withM T mA) 100000 1000 24 false a273) r273 = true := by kernel_rfl
theorem k293 : isR (ownG' (withM T mA) 100000 1000 96 false a293) r293 = true := by kernel_rfl
theorem k300 : isR (ownG' (withM T mA) 100000 1000 48 false a300) r300 = true := by kernel_rfl
theorem k305 : isR (ownG' (withM T mA) 100000 1000 24 false a305) r305 = true := by kernel_rfl
theorem k316 : isR (ownG' (withM T mA) 100000 1000 48 false a316) r316 = true := by kernel_rfl
theorem k357 : isR (ownG' (withM T mA) 100000 1000 96 false a357) r357 = true := by kernel_rfl
end Go.Proofs.YtgkokjkoifdbnaaGreat.knReplicaBatches
