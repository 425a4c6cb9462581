import Derived.Test.YtgkokjkoifdbnaaGreatKnReplicaBatchesA
import Derived.Test.YtgkokjkoifdbnaaGreatGe
import Derived.Test.YtgkokjkoifdbnaaGreatKnReplicaBatchesD
import Derived.KernelRfl
/- What calls answer, run by the interpreter. -/
namespace Go.Proofs.YtgkokjkoifdbnaaGreat.knReplicaBatches
open Go.Am Go.Am.Fs Go.Am.KnReplicaBatches
set_option maxRecDepth 1000000
theorem k17 : isR (ownG' (withM T mA) 100000 1000 24 false a17) r17 = true := by kernel_rfl
theorem k23 : isR (ownG' (withM T mA) 100000 1000 96 false a23) r23 = true := by kernel_rfl
theorem k30 : isR (ownG' (withM T mA) 100000 1000 48 false a30) r30 = true := by kernel_rfl
theorem k33 : isR (ownG' (withM T mA) 100000 1000 24 false a33) r33 = true := by kernel_rfl
theorem k48 : isR (ownG' (withM T mA) 100000 1000 96 false a48) r48 = true := by kernel_rfl
theorem k65 : isR (ownG' (withM T mA) 100000 1000 96 false a65) r65 = true := by kernel_rfl
theorem k76 : isR (ownG' (withM T mA) 100000 1000 96 false a76) r76 = true := by kernel_rfl
theorem k114 : isR (ownG' (withM T mA) 100000 1000 48 false a114) r114 = true := by kernel_rfl
theorem k121 : isR (ownG' (withM T mA) 100000 1000 96 false a121) r121 = true := by kernel_rfl
theorem k128 : isR (ownG' (withM T mA) 100000 1000 48 false a128) r128 = true := by kernel_rfl
theorem k135 : isR (ownG' (withM T mA) 100000 1000 96 false a135) r135 = true := by kernel_rfl
theorem k150 : isR (ownG' (withM T mA) 100000 1000 96 false a150) r150 = true := by kernel_rfl
theorem k183 : isR (ownG' (withM T mA) 100000 1000 96 false a183) r183 = true := by kernel_rfl
theorem k190 : isR (ownG' (withM T mA) 100000 1000 48 false a190) r190 = true := by kernel_rfl
theorem k195 : isR (ownG' (withM T mA) 100000 1000 96 false a195) r195 = true := by kernel_rfl
theorem k205 : isR (ownG' (withM T mA) 100000 1000 48 false a205) r205 = true := by kernel_rfl
theorem k210 : isR (ownG' (withM T mA) 100000 1000 96 false a210) r210 = true := by kernel_rfl
theorem k225 : isR (ownG' (withM T mA) 100000 1000 96 false a225) r225 = true := by kernel_rfl
theorem k243 : isR (ownG' (withM T mA) 100000 1000 96 false a243) r243 = true := by kernel_rfl
theorem k268 : isR (ownG' (withM T mA) 100000 1000 48 false a268) r268 = true := by kernel_rfl
theorem k290 : isR (ownG' (withM T mA) 100000 1000 96 false a290) r290 = true := by kernel_rfl
theorem k309 : isR (ownG' (withM T mA) 100000 1000 96 false a309) r309 = true := by kernel_rfl
theorem k337 : isR (ownG' (withM T mA) 100000 1000 24 false a337) r337 = true := by kernel_rfl
theorem k348 : isR (ownG' (withM T mA) 100000 1000 48 false a348) r348 = true := by kernel_rfl
end Go.Proofs.YtgkokjkoifdbnaaGreat.knReplicaBatches
