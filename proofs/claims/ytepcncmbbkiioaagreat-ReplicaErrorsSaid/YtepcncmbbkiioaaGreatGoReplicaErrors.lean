import Derived.Test.YtepcncmbbkiioaaGreatTab
import Derived.Test.YtepcncmbbkiioaaGreatFast2
import Derived.Test.YtepcncmbbkiioaaGreatRun
import Derived.KernelRfl
/- ReplicaErrors, run by the interpreter over any script: true. -/
namespace Go.Proofs.YtepcncmbbkiioaaGreat
open Go.Am Go.Am.Fs
set_option maxRecDepth 1000000
theorem replicaErrors_fast (v0 v1 v2 v3 v4 v5 v6 v7 v8 v9 v10 : AV) (a : Option Addr) (n c : Nat) : isT (runAF T 100000 3 [.agg [v0, v1, v2, v3, v4, v5, v6, v7, v8, v9, v10, .v (.slice a n c)]]) = true := by kernel_rfl
theorem replicaErrors_ran (v0 v1 v2 v3 v4 v5 v6 v7 v8 v9 v10 : AV) (a : Option Addr) (n c : Nat) : isT (runA T 100000 3 [.agg [v0, v1, v2, v3, v4, v5, v6, v7, v8, v9, v10, .v (.slice a n c)]]) = true := by
  rw [← runAF_eq]
  exact replicaErrors_fast v0 v1 v2 v3 v4 v5 v6 v7 v8 v9 v10 a n c
end Go.Proofs.YtepcncmbbkiioaaGreat
