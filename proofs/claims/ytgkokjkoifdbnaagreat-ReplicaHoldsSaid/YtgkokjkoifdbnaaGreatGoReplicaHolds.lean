import Derived.Test.YtgkokjkoifdbnaaGreatKnReplicaHolds
import Derived.Test.YtgkokjkoifdbnaaGreatFast2
import Derived.Test.YtgkokjkoifdbnaaGreatRun
import Derived.KernelRfl
/- ReplicaHolds, run by the interpreter over any script: true. -/
namespace Go.Proofs.YtgkokjkoifdbnaaGreat
open Go.Am Go.Am.Fs
set_option maxRecDepth 1000000
theorem replicaHolds_fast (v0 v1 v2 v3 v4 v5 v6 v7 v8 v9 v10 : AV) (a : Option Addr) (n c : Nat) : isT (runAF knReplicaHolds.TK 100000 6 [.agg [v0, v1, v2, v3, v4, v5, v6, v7, v8, v9, v10, .v (.slice a n c)]]) = true := by kernel_rfl
theorem replicaHolds_ran (v0 v1 v2 v3 v4 v5 v6 v7 v8 v9 v10 : AV) (a : Option Addr) (n c : Nat) : isT (runA knReplicaHolds.TK 100000 6 [.agg [v0, v1, v2, v3, v4, v5, v6, v7, v8, v9, v10, .v (.slice a n c)]]) = true := by
  rw [← runAF_eq]
  exact replicaHolds_fast v0 v1 v2 v3 v4 v5 v6 v7 v8 v9 v10 a n c
end Go.Proofs.YtgkokjkoifdbnaaGreat
