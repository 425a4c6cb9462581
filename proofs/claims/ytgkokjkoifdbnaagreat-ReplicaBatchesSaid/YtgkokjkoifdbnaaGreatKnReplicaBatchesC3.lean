import Derived.Test.YtgkokjkoifdbnaaGreatKnReplicaBatchesB
import Derived.Test.YtgkokjkoifdbnaaGreatGe
import Derived.Test.YtgkokjkoifdbnaaGreatKnReplicaBatchesD
import Derived.KernelRfl
/- What calls answer, run by the interpreter. -/
namespace Go.Proofs.YtgkokjkoifdbnaaGreat.knReplicaBatches
open Go.Am Go.Am.Fs Go.Am.KnReplicaBatches
set_option maxRecDepth 1000000
theorem k2 : isR (ownG' (withM T mB) 100000 1000 41 false a2) r2 = true := by kernel_rfl
theorem k13 : isR (ownG' (withM T mB) 100000 1000 42 false a13) r13 = true := by kernel_rfl
theorem k31 : isR (ownG' (withM T mB) 100000 1000 41 false a31) r31 = true := by kernel_rfl
theorem k49 : isR (ownG' (withM T mB) 100000 1000 60 false a49) r49 = true := by kernel_rfl
theorem k52 : isR (ownG' (withM T mB) 100000 1000 60 false a52) r52 = true := by kernel_rfl
theorem k57 : isR (ownG' (withM T mB) 100000 1000 42 false a57) r57 = true := by kernel_rfl
theorem k59 : isR (ownG' (withM T mB) 100000 1000 41 false a59) r59 = true := by kernel_rfl
theorem k77 : isR (ownG' (withM T mB) 100000 1000 60 false a77) r77 = true := by kernel_rfl
theorem k91 : isR (ownG' (withM T mB) 100000 1000 60 false a91) r91 = true := by kernel_rfl
theorem k94 : isR (ownG' (withM T mB) 100000 1000 60 false a94) r94 = true := by kernel_rfl
theorem k113 : isR (ownG' (withM T mB) 100000 1000 42 false a113) r113 = true := by kernel_rfl
theorem k119 : isR (ownG' (withM T mB) 100000 1000 60 false a119) r119 = true := by kernel_rfl
theorem k129 : isR (ownG' (withM T mB) 100000 1000 41 false a129) r129 = true := by kernel_rfl
theorem k134 : isR (ownG' (withM T mB) 100000 1000 41 false a134) r134 = true := by kernel_rfl
theorem k146 : isR (ownG' (withM T mB) 100000 1000 41 false a146) r146 = true := by kernel_rfl
theorem k154 : isR (ownG' (withM T mB) 100000 1000 60 false a154) r154 = true := by kernel_rfl
theorem k162 : isR (ownG' (withM T mB) 100000 1000 60 false a162) r162 = true := by kernel_rfl
theorem k174 : isR (ownG' (withM T mB) 100000 1000 42 false a174) r174 = true := by kernel_rfl
theorem k193 : isR (ownG' (withM T mB) 100000 1000 60 false a193) r193 = true := by kernel_rfl
theorem k204 : isR (ownG' (withM T mB) 100000 1000 42 false a204) r204 = true := by kernel_rfl
theorem k208 : isR (ownG' (withM T mB) 100000 1000 60 false a208) r208 = true := by kernel_rfl
theorem k211 : isR (ownG' (withM T mB) 100000 1000 60 false a211) r211 = true := by kernel_rfl
theorem k214 : isR (ownG' (withM T mB) 100000 1000 60 false a214) r214 = true := by kernel_rfl
theorem k221 : isR (ownG' (withM T mB) 100000 1000 41 false a221) r221 = true := by kernel_rfl
theorem k222 : isR (ownG' (withM T mB) 100000 1000 60 false a222) r222 = true := by kernel_rfl
theorem k231 : isR (ownG' (withM T mB) 100000 1000 26 false a231) r231 = true := by kernel_rfl
theorem k234 : isR (ownG' (withM T mB) 100000 1000 42 false a234) r234 = true := by kernel_rfl
theorem k253 : isR (ownG' (withM T mB) 100000 1000 60 false a253) r253 = true := by kernel_rfl
theorem k254 : isR (ownG' (withM T mB) 100000 1000 60 false a254) r254 = true := by kernel_rfl
theorem k262 : isR (ownG' (withM T mB) 100000 1000 60 false a262) r262 = true := by kernel_rfl
theorem k267 : isR (ownG' (withM T mB) 100000 1000 42 false a267) r267 = true := by kernel_rfl
theorem k286 : isR (ownG' (withM T mB) 100000 1000 60 false a286) r286 = true := by kernel_rfl
theorem k287 : isR (ownG' (withM T mB) 100000 1000 60 false a287) r287 = true := by kernel_rfl
theorem k294 : isR (ownG' (withM T mB) 100000 1000 60 false a294) r294 = true := by kernel_rfl
theorem k296 : isR (ownG' (withM T mB) 100000 1000 26 false a296) r296 = true := by kernel_rfl
theorem k312 : isR (ownG' (withM T mB) 100000 1000 26 false a312) r312 = true := by kernel_rfl
theorem k323 : isR (ownG' (withM T mB) 100000 1000 60 false a323) r323 = true := by kernel_rfl
theorem k326 : isR (ownG' (withM T mB) 100000 1000 60 false a326) r326 = true := by kernel_rfl
theorem k336 : isR (ownG' (withM T mB) 100000 1000 60 false a336) r336 = true := by kernel_rfl
theorem k349 : isR (ownG' (withM T mB) 100000 1000 41 false a349) r349 = true := by kernel_rfl
theorem k351 : isR (ownG' (withM T mB) 100000 1000 60 false a351) r351 = true := by kernel_rfl
theorem k358 : isR (ownG' (withM T mB) 100000 1000 60 false a358) r358 = true := by kernel_rfl
end Go.Proofs.YtgkokjkoifdbnaaGreat.knReplicaBatches
