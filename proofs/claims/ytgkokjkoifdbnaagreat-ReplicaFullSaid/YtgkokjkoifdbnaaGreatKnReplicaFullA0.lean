import Derived.Test.YtgkokjkoifdbnaaGreatMm
import Derived.Test.YtgkokjkoifdbnaaGreatGe
import Derived.Test.YtgkokjkoifdbnaaGreatKnReplicaFullD
import Derived.KernelRfl
/- What calls answer, run by the interpreter. -/
namespace Go.Proofs.YtgkokjkoifdbnaaGreat.knReplicaFull
open Go.Am Go.Am.Fs Go.Am.KnReplicaFull
set_option maxRecDepth 1000000
theorem k3 : isR (ownG' (withM T mmB) 100000 1000 194 true a3) r3 = true := by kernel_rfl
theorem k8 : isR (ownG' (withM T mmB) 100000 1000 194 true a8) r8 = true := by kernel_rfl
theorem k12 : isR (ownG' (withM T mmB) 100000 1000 85 false a12) r12 = true := by kernel_rfl
theorem k22 : isR (ownG' (withM T mmB) 100000 1000 85 false a22) r22 = true := by kernel_rfl
theorem k23 : isR (ownG' (withM T mmB) 100000 1000 194 true a23) r23 = true := by kernel_rfl
theorem k28 : isR (ownG' (withM T mmB) 100000 1000 194 true a28) r28 = true := by kernel_rfl
theorem k32 : isR (ownG' (withM T mmB) 100000 1000 85 false a32) r32 = true := by kernel_rfl
theorem k42 : isR (ownG' (withM T mmB) 100000 1000 85 false a42) r42 = true := by kernel_rfl
theorem k43 : isR (ownG' (withM T mmB) 100000 1000 194 true a43) r43 = true := by kernel_rfl
theorem k48 : isR (ownG' (withM T mmB) 100000 1000 194 true a48) r48 = true := by kernel_rfl
theorem k52 : isR (ownG' (withM T mmB) 100000 1000 85 false a52) r52 = true := by kernel_rfl
theorem k53 : isR (ownG' (withM T mmB) 100000 1000 194 true a53) r53 = true := by kernel_rfl
theorem k62 : isR (ownG' (withM T mmB) 100000 1000 85 false a62) r62 = true := by kernel_rfl
theorem k68 : isR (ownG' (withM T mmB) 100000 1000 194 true a68) r68 = true := by kernel_rfl
theorem k72 : isR (ownG' (withM T mmB) 100000 1000 85 false a72) r72 = true := by kernel_rfl
theorem k73 : isR (ownG' (withM T mmB) 100000 1000 194 true a73) r73 = true := by kernel_rfl
theorem k82 : isR (ownG' (withM T mmB) 100000 1000 85 false a82) r82 = true := by kernel_rfl
theorem k88 : isR (ownG' (withM T mmB) 100000 1000 194 true a88) r88 = true := by kernel_rfl
theorem k92 : isR (ownG' (withM T mmB) 100000 1000 85 false a92) r92 = true := by kernel_rfl
theorem k93 : isR (ownG' (withM T mmB) 100000 1000 194 true a93) r93 = true := by kernel_rfl
theorem k102 : isR (ownG' (withM T mmB) 100000 1000 85 false a102) r102 = true := by kernel_rfl
theorem k108 : isR (ownG' (withM T mmB) 100000 1000 194 true a108) r108 = true := by kernel_rfl
theorem k112 : isR (ownG' (withM T mmB) 100000 1000 85 false a112) r112 = true := by kernel_rfl
theorem k113 : isR (ownG' (withM T mmB) 100000 1000 194 true a113) r113 = true := by kernel_rfl
theorem k122 : isR (ownG' (withM T mmB) 100000 1000 85 false a122) r122 = true := by kernel_rfl
theorem k128 : isR (ownG' (withM T mmB) 100000 1000 194 true a128) r128 = true := by kernel_rfl
theorem k132 : isR (ownG' (withM T mmB) 100000 1000 85 false a132) r132 = true := by kernel_rfl
theorem k133 : isR (ownG' (withM T mmB) 100000 1000 194 true a133) r133 = true := by kernel_rfl
theorem k142 : isR (ownG' (withM T mmB) 100000 1000 85 false a142) r142 = true := by kernel_rfl
theorem k148 : isR (ownG' (withM T mmB) 100000 1000 194 true a148) r148 = true := by kernel_rfl
theorem k152 : isR (ownG' (withM T mmB) 100000 1000 85 false a152) r152 = true := by kernel_rfl
theorem k153 : isR (ownG' (withM T mmB) 100000 1000 194 true a153) r153 = true := by kernel_rfl
theorem k162 : isR (ownG' (withM T mmB) 100000 1000 85 false a162) r162 = true := by kernel_rfl
theorem k168 : isR (ownG' (withM T mmB) 100000 1000 194 true a168) r168 = true := by kernel_rfl
theorem k172 : isR (ownG' (withM T mmB) 100000 1000 85 false a172) r172 = true := by kernel_rfl
theorem k173 : isR (ownG' (withM T mmB) 100000 1000 194 true a173) r173 = true := by kernel_rfl
theorem k182 : isR (ownG' (withM T mmB) 100000 1000 85 false a182) r182 = true := by kernel_rfl
theorem k188 : isR (ownG' (withM T mmB) 100000 1000 194 true a188) r188 = true := by kernel_rfl
theorem k192 : isR (ownG' (withM T mmB) 100000 1000 85 false a192) r192 = true := by kernel_rfl
theorem k193 : isR (ownG' (withM T mmB) 100000 1000 194 true a193) r193 = true := by kernel_rfl
theorem k202 : isR (ownG' (withM T mmB) 100000 1000 85 false a202) r202 = true := by kernel_rfl
theorem k208 : isR (ownG' (withM T mmB) 100000 1000 194 true a208) r208 = true := by kernel_rfl
theorem k212 : isR (ownG' (withM T mmB) 100000 1000 85 false a212) r212 = true := by kernel_rfl
theorem k213 : isR (ownG' (withM T mmB) 100000 1000 194 true a213) r213 = true := by kernel_rfl
theorem k222 : isR (ownG' (withM T mmB) 100000 1000 85 false a222) r222 = true := by kernel_rfl
theorem k228 : isR (ownG' (withM T mmB) 100000 1000 194 true a228) r228 = true := by kernel_rfl
theorem k232 : isR (ownG' (withM T mmB) 100000 1000 85 false a232) r232 = true := by kernel_rfl
theorem k233 : isR (ownG' (withM T mmB) 100000 1000 194 true a233) r233 = true := by kernel_rfl
theorem k242 : isR (ownG' (withM T mmB) 100000 1000 85 false a242) r242 = true := by kernel_rfl
theorem k244 : isR (ownG' (withM T mmB) 100000 1000 85 false a244) r244 = true := by kernel_rfl
theorem k250 : isR (ownG' (withM T mmB) 100000 1000 194 true a250) r250 = true := by kernel_rfl
end Go.Proofs.YtgkokjkoifdbnaaGreat.knReplicaFull
