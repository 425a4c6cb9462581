import Derived.Test.YtgkokjkoifdbnaaGreatKnReplicaFullC
import Derived.Test.YtgkokjkoifdbnaaGreatGe
import Derived.Test.YtgkokjkoifdbnaaGreatTies
import Derived.KernelRfl
/- ReplicaFull, run by the interpreter over any script: true. -/
namespace Go.Proofs.YtgkokjkoifdbnaaGreat
open Go.Am Go.Am.Fs
set_option maxRecDepth 1000000
theorem replicaFull_fast (v0 v1 v2 v3 v4 v5 v6 v7 v8 v9 v10 : AV) (a : Option Addr) (n c : Nat) : isT (ownG' (withM T knReplicaFull.mC) 100000 1000 3 false [.agg [v0, v1, v2, v3, v4, v5, v6, v7, v8, v9, v10, .v (.slice a n c)]]) = true := by kernel_rfl
theorem replicaFull_ran (v0 v1 v2 v3 v4 v5 v6 v7 v8 v9 v10 : AV) (a : Option Addr) (n c : Nat) : ∃ N, isT (runA (withM T knReplicaFull.mC) N 3 [.agg [v0, v1, v2, v3, v4, v5, v6, v7, v8, v9, v10, .v (.slice a n c)]]) = true := ranG (replicaFull_fast v0 v1 v2 v3 v4 v5 v6 v7 v8 v9 v10 a n c)
theorem replicaFull_tab : TabOK Tryz.prog (compC Tryz.prog (withM T knReplicaFull.mC)) (withM T knReplicaFull.mC) := MM.tab knReplicaFull.mC_ok tabOK
end Go.Proofs.YtgkokjkoifdbnaaGreat
