import Derived.Test.YtgkokjkoifdbnaaGreatKnReplicaBatchesA
import Derived.Test.YtgkokjkoifdbnaaGreatGe
import Derived.Test.YtgkokjkoifdbnaaGreatKnReplicaBatchesD
import Derived.KernelRfl
/- What calls answer, run by the interpreter. -/
namespace Go.Proofs.YtgkokjkoifdbnaaGreat.knReplicaBatches
open Go.Am Go.Am.Fs Go.Am.KnReplicaBatches
set_option maxRecDepth 1000000
theorem k1 : isR (ownG' (withM T mA) 100000 1000 48 false a1) r1 = true := by kernel_rfl
theorem k6 : isR (ownG' (withM T mA) 100000 1000 48 false a6) r6 = true := by kernel_rfl
theorem k18 : isR (ownG' (withM T mA) 100000 1000 48 false a18) r18 = true := by kernel_rfl
theorem k44 : isR (ownG' (withM T mA) 100000 1000 48 false a44) r44 = true := by kernel_rfl
theorem k58 : isR (ownG' (withM T mA) 100000 1000 48 false a58) r58 = true := by kernel_rfl
theorem k61 : isR (ownG' (withM T mA) 100000 1000 24 false a61) r61 = true := by kernel_rfl
theorem k62 : isR (ownG' (withM T mA) 100000 1000 96 false a62) r62 = true := by kernel_rfl
theorem k72 : isR (ownG' (withM T mA) 100000 1000 48 false a72) r72 = true := by kernel_rfl
theorem k86 : isR (ownG' (withM T mA) 100000 1000 48 false a86) r86 = true := by kernel_rfl
theorem k93 : isR (ownG' (withM T mA) 100000 1000 96 false a93) r93 = true := by kernel_rfl
theorem k104 : isR (ownG' (withM T mA) 100000 1000 96 false a104) r104 = true := by kernel_rfl
theorem k133 : isR (ownG' (withM T mA) 100000 1000 48 false a133) r133 = true := by kernel_rfl
theorem k153 : isR (ownG' (withM T mA) 100000 1000 96 false a153) r153 = true := by kernel_rfl
theorem k164 : isR (ownG' (withM T mA) 100000 1000 24 false a164) r164 = true := by kernel_rfl
theorem k165 : isR (ownG' (withM T mA) 100000 1000 96 false a165) r165 = true := by kernel_rfl
theorem k179 : isR (ownG' (withM T mA) 100000 1000 24 false a179) r179 = true := by kernel_rfl
theorem k180 : isR (ownG' (withM T mA) 100000 1000 96 false a180) r180 = true := by kernel_rfl
theorem k213 : isR (ownG' (withM T mA) 100000 1000 96 false a213) r213 = true := by kernel_rfl
theorem k239 : isR (ownG' (withM T mA) 100000 1000 24 false a239) r239 = true := by kernel_rfl
theorem k240 : isR (ownG' (withM T mA) 100000 1000 96 false a240) r240 = true := by kernel_rfl
theorem k256 : isR (ownG' (withM T mA) 100000 1000 48 false a256) r256 = true := by kernel_rfl
theorem k277 : isR (ownG' (withM T mA) 100000 1000 96 false a277) r277 = true := by kernel_rfl
theorem k306 : isR (ownG' (withM T mA) 100000 1000 96 false a306) r306 = true := by kernel_rfl
theorem k322 : isR (ownG' (withM T mA) 100000 1000 96 false a322) r322 = true := by kernel_rfl
theorem k338 : isR (ownG' (withM T mA) 100000 1000 96 false a338) r338 = true := by kernel_rfl
theorem k341 : isR (ownG' (withM T mA) 100000 1000 96 false a341) r341 = true := by kernel_rfl
end Go.Proofs.YtgkokjkoifdbnaaGreat.knReplicaBatches
