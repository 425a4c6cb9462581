import Derived.Test.YtgkokjkoifdbnaaGreatRnReplicaBatches0
import Derived.Test.YtgkokjkoifdbnaaGreatRnReplicaBatches1
import Derived.Test.YtgkokjkoifdbnaaGreatRnReplicaBatches2
import Derived.Test.YtgkokjkoifdbnaaGreatRnReplicaBatches3
import Derived.Test.YtgkokjkoifdbnaaGreatTies
import Derived.Test.YtgkokjkoifdbnaaGreatKnReplicaBatchesC
import Derived.Test.YtgkokjkoifdbnaaGreatGe
import Derived.Test.YtgkokjkoifdbnaaGreatB1
import Derived.KernelRfl
/- ReplicaBatches from the number of nodes on, run by the interpreter. -/
namespace Go.Proofs.YtgkokjkoifdbnaaGreat
open Go.Am Go.Am.Fs
set_option maxRecDepth 1000000
theorem within_cf (id : Nat) (a : Int) (H : Heap) (nx : Nat) : Go.Am.cfG (withM T knReplicaBatches.mC) 100000 1000 id 21 [I a, I 24] H nx = some (I (withinI a), H, nx) := by kernel_rfl
theorem all_runs : ∀ k : Nat, k < 24 → ∀ (v0 v1 v2 v3 v4 v5 v6 v7 v8 v9 v10 : AV) (a : Option Addr) (n c : Nat), isTK (Go.Am.stepG T (Go.Am.cfG (withM T knReplicaBatches.mC) 100000 1000) (Go.Am.execG T (Go.Am.cfG (withM T knReplicaBatches.mC) 100000 1000) 100000) (F5.body.part [2, 2]) (padA [.agg [v0, v1, v2, v3, v4, v5, v6, v7, v8, v9, v10, .v (.slice a n c)], .ptr 0 0, B false, I (Int.ofNat k), aundef, aundef, aundef, aundef, aundef, aundef, aundef, aundef, aundef, aundef, aundef, aundef, aundef, aundef, aundef, aundef, aundef, aundef, aundef, .ptr 0 11, .v (.slice a n c), I (Int.ofNat n), I (Int.ofNat k), aundef, aundef, aundef, aundef, aundef, aundef, aundef, aundef, aundef, aundef, aundef, aundef, aundef, aundef, aundef, aundef, aundef, aundef, aundef, aundef, aundef, aundef, aundef, aundef, aundef, aundef, aundef, aundef, aundef, aundef, aundef, aundef, aundef, aundef, aundef, aundef, aundef, aundef, aundef, aundef, aundef, aundef, aundef, aundef, aundef, aundef, aundef, aundef, aundef, aundef, aundef, aundef, aundef, aundef, aundef, aundef, aundef, aundef, aundef, aundef, aundef, aundef, aundef, aundef, aundef, aundef, aundef, aundef, aundef, aundef, aundef, aundef, aundef, aundef, aundef, aundef, aundef, aundef, aundef, aundef, aundef, aundef, aundef, aundef, aundef, aundef, aundef, aundef, aundef, aundef, aundef, aundef, aundef, aundef, aundef, aundef, aundef, aundef, aundef, aundef, aundef, aundef, aundef, aundef, aundef, aundef, aundef, aundef, aundef, aundef, aundef, aundef, aundef, aundef, aundef, aundef, aundef, aundef, aundef, aundef, aundef, aundef, aundef, aundef, aundef, aundef, aundef, aundef, aundef, aundef, aundef, aundef, aundef, aundef, aundef, aundef, aundef, aundef, aundef] 166) [(0, ⟨35, [v0, v1, v2, v3, v4, v5, v6, v7, v8, v9, v10, .v (.slice a n c)]⟩)] (0 + 2 + 5) (KC.g (finO false F5.results))) = true
  | 0, _ => run0
  | 1, _ => run1
  | 2, _ => run2
  | 3, _ => run3
  | 4, _ => run4
  | 5, _ => run5
  | 6, _ => run6
  | 7, _ => run7
  | 8, _ => run8
  | 9, _ => run9
  | 10, _ => run10
  | 11, _ => run11
  | 12, _ => run12
  | 13, _ => run13
  | 14, _ => run14
  | 15, _ => run15
  | 16, _ => run16
  | 17, _ => run17
  | 18, _ => run18
  | 19, _ => run19
  | 20, _ => run20
  | 21, _ => run21
  | 22, _ => run22
  | 23, _ => run23
  | k + 24, h => fun _ _ _ _ _ _ _ _ _ _ _ _ _ _ => absurd h (by omega)
theorem replicaBatches_ran (v0 v1 v2 v3 v4 v5 v6 v7 v8 v9 v10 : AV) (a : Option Addr) (n c : Nat) : ∃ N, isT (runA (withM T knReplicaBatches.mC) N 5 [.agg [v0, v1, v2, v3, v4, v5, v6, v7, v8, v9, v10, .v (.slice a n c)]]) = true := by
  obtain ⟨k, hk, e⟩ := withinI_ok (Int.ofNat n)
  have h := all_runs k hk v0 v1 v2 v3 v4 v5 v6 v7 v8 v9 v10 a n c
  rw [← restB] at h
  have e2 : ownK T (Go.Am.cfG (withM T knReplicaBatches.mC) 100000 1000) (100000 + 1) 5 false [.agg [v0, v1, v2, v3, v4, v5, v6, v7, v8, v9, v10, .v (.slice a n c)]] = stepK T (Go.Am.cfG (withM T knReplicaBatches.mC) 100000 1000) (execK T (Go.Am.cfG (withM T knReplicaBatches.mC) 100000 1000) 100000) (F5.body.part [2, 2]) ⟨padA [.agg [v0, v1, v2, v3, v4, v5, v6, v7, v8, v9, v10, .v (.slice a n c)], .ptr 0 0, B false, I (Int.ofNat k), aundef, aundef, aundef, aundef, aundef, aundef, aundef, aundef, aundef, aundef, aundef, aundef, aundef, aundef, aundef, aundef, aundef, aundef, aundef, .ptr 0 11, .v (.slice a n c), I (Int.ofNat n), I (Int.ofNat k), aundef, aundef, aundef, aundef, aundef, aundef, aundef, aundef, aundef, aundef, aundef, aundef, aundef, aundef, aundef, aundef, aundef, aundef, aundef, aundef, aundef, aundef, aundef, aundef, aundef, aundef, aundef, aundef, aundef, aundef, aundef, aundef, aundef, aundef, aundef, aundef, aundef, aundef, aundef, aundef, aundef, aundef, aundef, aundef, aundef, aundef, aundef, aundef, aundef, aundef, aundef, aundef, aundef, aundef, aundef, aundef, aundef, aundef, aundef, aundef, aundef, aundef, aundef, aundef, aundef, aundef, aundef, aundef, aundef, aundef, aundef, aundef, aundef, aundef, aundef, aundef, aundef, aundef, aundef, aundef, aundef, aundef, aundef, aundef, aundef, aundef, aundef, aundef, aundef, aundef, aundef, aundef, aundef, aundef, aundef, aundef, aundef, aundef, aundef, aundef, aundef, aundef, aundef, aundef, aundef, aundef, aundef, aundef, aundef, aundef, aundef, aundef, aundef, aundef, aundef, aundef, aundef, aundef, aundef, aundef, aundef, aundef, aundef, aundef, aundef, aundef, aundef, aundef, aundef, aundef, aundef, aundef, aundef, aundef, aundef, aundef, aundef, aundef, aundef] 166, [(0, ⟨35, [v0, v1, v2, v3, v4, v5, v6, v7, v8, v9, v10, .v (.slice a n c)]⟩)], 0 + 2 + 5⟩ (finO false F5.results) := by
    rw [preB, within_cf, e, callK_some']
  rw [← e2] at h
  exact ranK (T := T) (mm := knReplicaBatches.mC) (cfG_ok _ 100000 1000) h
theorem replicaBatches_tab : TabOK Tryz.prog (compC Tryz.prog (withM T knReplicaBatches.mC)) (withM T knReplicaBatches.mC) := MM.tab knReplicaBatches.mC_ok tabOK
end Go.Proofs.YtgkokjkoifdbnaaGreat
