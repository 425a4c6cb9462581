import Derived.Test.YtgkokjkoifdbnaaGreatKnReplicaFullB
import Derived.Test.YtgkokjkoifdbnaaGreatGe
import Derived.Test.YtgkokjkoifdbnaaGreatKnReplicaFullD
import Derived.KernelRfl
/- What calls answer, run by the interpreter. -/
namespace Go.Proofs.YtgkokjkoifdbnaaGreat.knReplicaFull
open Go.Am Go.Am.Fs Go.Am.KnReplicaFull
set_option maxRecDepth 1000000
theorem k1 : isR (ownG' (withM T mB) 100000 1000 41 false a1) r1 = true := by kernel_rfl
theorem k6 : isR (ownG' (withM T mB) 100000 1000 41 false a6) r6 = true := by kernel_rfl
theorem k19 : isR (ownG' (withM T mB) 100000 1000 42 false a19) r19 = true := by kernel_rfl
theorem k26 : isR (ownG' (withM T mB) 100000 1000 41 false a26) r26 = true := by kernel_rfl
theorem k51 : isR (ownG' (withM T mB) 100000 1000 41 false a51) r51 = true := by kernel_rfl
theorem k59 : isR (ownG' (withM T mB) 100000 1000 42 false a59) r59 = true := by kernel_rfl
theorem k61 : isR (ownG' (withM T mB) 100000 1000 41 false a61) r61 = true := by kernel_rfl
theorem k74 : isR (ownG' (withM T mB) 100000 1000 42 false a74) r74 = true := by kernel_rfl
theorem k86 : isR (ownG' (withM T mB) 100000 1000 41 false a86) r86 = true := by kernel_rfl
theorem k94 : isR (ownG' (withM T mB) 100000 1000 42 false a94) r94 = true := by kernel_rfl
theorem k99 : isR (ownG' (withM T mB) 100000 1000 42 false a99) r99 = true := by kernel_rfl
theorem k119 : isR (ownG' (withM T mB) 100000 1000 42 false a119) r119 = true := by kernel_rfl
theorem k121 : isR (ownG' (withM T mB) 100000 1000 41 false a121) r121 = true := by kernel_rfl
theorem k136 : isR (ownG' (withM T mB) 100000 1000 41 false a136) r136 = true := by kernel_rfl
theorem k141 : isR (ownG' (withM T mB) 100000 1000 41 false a141) r141 = true := by kernel_rfl
theorem k151 : isR (ownG' (withM T mB) 100000 1000 41 false a151) r151 = true := by kernel_rfl
theorem k164 : isR (ownG' (withM T mB) 100000 1000 42 false a164) r164 = true := by kernel_rfl
theorem k176 : isR (ownG' (withM T mB) 100000 1000 41 false a176) r176 = true := by kernel_rfl
theorem k184 : isR (ownG' (withM T mB) 100000 1000 42 false a184) r184 = true := by kernel_rfl
theorem k196 : isR (ownG' (withM T mB) 100000 1000 41 false a196) r196 = true := by kernel_rfl
theorem k204 : isR (ownG' (withM T mB) 100000 1000 42 false a204) r204 = true := by kernel_rfl
theorem k211 : isR (ownG' (withM T mB) 100000 1000 41 false a211) r211 = true := by kernel_rfl
theorem k229 : isR (ownG' (withM T mB) 100000 1000 42 false a229) r229 = true := by kernel_rfl
theorem k241 : isR (ownG' (withM T mB) 100000 1000 41 false a241) r241 = true := by kernel_rfl
theorem k246 : isR (ownG' (withM T mB) 100000 1000 42 false a246) r246 = true := by kernel_rfl
theorem k251 : isR (ownG' (withM T mB) 100000 1000 42 false a251) r251 = true := by kernel_rfl
end Go.Proofs.YtgkokjkoifdbnaaGreat.knReplicaFull
