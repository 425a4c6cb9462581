import Derived.Test.YtgkokjkoifdbnaaGreatKnReplicaBatchesB
import Derived.Test.YtgkokjkoifdbnaaGreatGe
import Derived.Test.YtgkokjkoifdbnaaGreatKnReplicaBatchesD
import Derived.KernelRfl
/- What calls answer, run by the interpreter. -/
namespace Go.Proofs.YtgkokjkoifdbnaaGreat.knReplicaBatches
open Go.Am Go.Am.Fs Go.Am.KnReplicaBatches
set_option maxRecDepth 1000000
theorem k7 : isR (ownG' (withM T mB) 100000 1000 41 false a7) r7 = true := by kernel_rfl
theorem k24 : isR (ownG' (withM T mB) 100000 1000 60 false a24) r24 = true := by kernel_rfl
theorem k26 : isR (ownG' (withM T mB) 100000 1000 26 false a26) r26 = true := by kernel_rfl
theorem k35 : isR (ownG' (withM T mB) 100000 1000 60 false a35) r35 = true := by kernel_rfl
theorem k45 : isR (ownG' (withM T mB) 100000 1000 41 false a45) r45 = true := by kernel_rfl
theorem k60 : isR (ownG' (withM T mB) 100000 1000 60 false a60) r60 = true := by kernel_rfl
theorem k80 : isR (ownG' (withM T mB) 100000 1000 60 false a80) r80 = true := by kernel_rfl
theorem k87 : isR (ownG' (withM T mB) 100000 1000 41 false a87) r87 = true := by kernel_rfl
theorem k88 : isR (ownG' (withM T mB) 100000 1000 60 false a88) r88 = true := by kernel_rfl
theorem k96 : isR (ownG' (withM T mB) 100000 1000 26 false a96) r96 = true := by kernel_rfl
theorem k115 : isR (ownG' (withM T mB) 100000 1000 41 false a115) r115 = true := by kernel_rfl
theorem k116 : isR (ownG' (withM T mB) 100000 1000 60 false a116) r116 = true := by kernel_rfl
theorem k122 : isR (ownG' (withM T mB) 100000 1000 60 false a122) r122 = true := by kernel_rfl
theorem k131 : isR (ownG' (withM T mB) 100000 1000 60 false a131) r131 = true := by kernel_rfl
theorem k156 : isR (ownG' (withM T mB) 100000 1000 26 false a156) r156 = true := by kernel_rfl
theorem k161 : isR (ownG' (withM T mB) 100000 1000 41 false a161) r161 = true := by kernel_rfl
theorem k169 : isR (ownG' (withM T mB) 100000 1000 60 false a169) r169 = true := by kernel_rfl
theorem k171 : isR (ownG' (withM T mB) 100000 1000 26 false a171) r171 = true := by kernel_rfl
theorem k178 : isR (ownG' (withM T mB) 100000 1000 60 false a178) r178 = true := by kernel_rfl
theorem k181 : isR (ownG' (withM T mB) 100000 1000 60 false a181) r181 = true := by kernel_rfl
theorem k184 : isR (ownG' (withM T mB) 100000 1000 60 false a184) r184 = true := by kernel_rfl
theorem k186 : isR (ownG' (withM T mB) 100000 1000 26 false a186) r186 = true := by kernel_rfl
theorem k189 : isR (ownG' (withM T mB) 100000 1000 42 false a189) r189 = true := by kernel_rfl
theorem k191 : isR (ownG' (withM T mB) 100000 1000 41 false a191) r191 = true := by kernel_rfl
theorem k192 : isR (ownG' (withM T mB) 100000 1000 60 false a192) r192 = true := by kernel_rfl
theorem k196 : isR (ownG' (withM T mB) 100000 1000 60 false a196) r196 = true := by kernel_rfl
theorem k229 : isR (ownG' (withM T mB) 100000 1000 60 false a229) r229 = true := by kernel_rfl
theorem k236 : isR (ownG' (withM T mB) 100000 1000 41 false a236) r236 = true := by kernel_rfl
theorem k246 : isR (ownG' (withM T mB) 100000 1000 26 false a246) r246 = true := by kernel_rfl
theorem k269 : isR (ownG' (withM T mB) 100000 1000 41 false a269) r269 = true := by kernel_rfl
theorem k270 : isR (ownG' (withM T mB) 100000 1000 60 false a270) r270 = true := by kernel_rfl
theorem k271 : isR (ownG' (withM T mB) 100000 1000 60 false a271) r271 = true := by kernel_rfl
theorem k299 : isR (ownG' (withM T mB) 100000 1000 42 false a299) r299 = true := by kernel_rfl
theorem k310 : isR (ownG' (withM T mB) 100000 1000 60 false a310) r310 = true := by kernel_rfl
theorem k318 : isR (ownG' (withM T mB) 100000 1000 60 false a318) r318 = true := by kernel_rfl
theorem k319 : isR (ownG' (withM T mB) 100000 1000 60 false a319) r319 = true := by kernel_rfl
theorem k320 : isR (ownG' (withM T mB) 100000 1000 60 false a320) r320 = true := by kernel_rfl
theorem k331 : isR (ownG' (withM T mB) 100000 1000 42 false a331) r331 = true := by kernel_rfl
theorem k342 : isR (ownG' (withM T mB) 100000 1000 60 false a342) r342 = true := by kernel_rfl
theorem k347 : isR (ownG' (withM T mB) 100000 1000 42 false a347) r347 = true := by kernel_rfl
theorem k352 : isR (ownG' (withM T mB) 100000 1000 60 false a352) r352 = true := by kernel_rfl
theorem k360 : isR (ownG' (withM T mB) 100000 1000 26 false a360) r360 = true := by kernel_rfl
end Go.Proofs.YtgkokjkoifdbnaaGreat.knReplicaBatches
