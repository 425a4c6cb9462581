import Derived.Test.YtgkokjkoifdbnaaGreatMe
import Derived.Test.YtgkokjkoifdbnaaGreatGe
import Derived.Test.YtgkokjkoifdbnaaGreatTab
import Derived.KernelRfl
/- ReplicaBatches up to the number of nodes that it makes. -/
namespace Go.Am
set_option autoImplicit false
set_option linter.unusedVariables false
set_option maxRecDepth 100000
open Fs
def withinI (a : Int) : Int := IntKind.i64.wrap ((IntKind.u64.wrap a).tmod (IntKind.u64.wrap 24))
theorem withinI_ok (a : Int) : ∃ k : Nat, k < 24 ∧ withinI a = Int.ofNat k := by
  have h24 : IntKind.u64.wrap 24 = 24 := by decide
  have h0 : 0 ≤ IntKind.u64.wrap a := by
    show 0 ≤ (if (false && decide (a % (2 ^ 64 : Int) ≥ (2 ^ 63 : Int))) = true then a % (2 ^ 64 : Int) - (2 ^ 64 : Int) else a % (2 ^ 64 : Int))
    rw [pow64]
    simp only [Bool.false_and, Bool.false_eq_true, if_false]
    omega
  unfold withinI
  rw [h24]
  have h1 : (IntKind.u64.wrap a).tmod 24 = IntKind.u64.wrap a % 24 := Int.tmod_eq_emod_of_nonneg h0
  rw [h1, wrap_id (by omega) (by omega)]
  refine ⟨(IntKind.u64.wrap a % 24).toNat, by omega, ?_⟩
  simp only [Int.ofNat_eq_natCast]
  omega
def mWithin : Bool → List AV → Option AV := fun _ args => match args with
  | [.v (.int .i64 a), .v (.int .i64 24)] => some (I (withinI a))
  | _ => none
theorem toldW (mm : Nat → Bool → List AV → Option AV) : Told T mm 21 mWithin := by
  intro b args r h
  unfold mWithin at h
  split at h
  · rename_i a
    simp only [Option.some.injEq] at h; subst h
    have e : ownK T (cfM (withM T mm)) 1 21 b [I a, I 24] = some (I (withinI a), [], 0) := by kernel_rfl
    exact ⟨1, [], 0, e⟩
  · simp at h
theorem preB (cf : CF) (k : Nat) (v0 v1 v2 v3 v4 v5 v6 v7 v8 v9 v10 : AV) (a : Option Addr) (n c : Nat) : ownK T cf (k + 1) 5 false [.agg [v0, v1, v2, v3, v4, v5, v6, v7, v8, v9, v10, .v (.slice a n c)]] =
    callK (cf (0 + 2 + 3) 21 [I (Int.ofNat n), I 24] [(0, ⟨35, [v0, v1, v2, v3, v4, v5, v6, v7, v8, v9, v10, .v (.slice a n c)]⟩)] (0 + 2 + 5)) fun v H nx => stepK T cf (execK T cf k) (F5.body.part [2, 2]) ⟨padA [.agg [v0, v1, v2, v3, v4, v5, v6, v7, v8, v9, v10, .v (.slice a n c)], .ptr 0 0, B false, v, aundef, aundef, aundef, aundef, aundef, aundef, aundef, aundef, aundef, aundef, aundef, aundef, aundef, aundef, aundef, aundef, aundef, aundef, aundef, .ptr 0 11, .v (.slice a n c), I (Int.ofNat n), v, aundef, aundef, aundef, aundef, aundef, aundef, aundef, aundef, aundef, aundef, aundef, aundef, aundef, aundef, aundef, aundef, aundef, aundef, aundef, aundef, aundef, aundef, aundef, aundef, aundef, aundef, aundef, aundef, aundef, aundef, aundef, aundef, aundef, aundef, aundef, aundef, aundef, aundef, aundef, aundef, aundef, aundef, aundef, aundef, aundef, aundef, aundef, aundef, aundef, aundef, aundef, aundef, aundef, aundef, aundef, aundef, aundef, aundef, aundef, aundef, aundef, aundef, aundef, aundef, aundef, aundef, aundef, aundef, aundef, aundef, aundef, aundef, aundef, aundef, aundef, aundef, aundef, aundef, aundef, aundef, aundef, aundef, aundef, aundef, aundef, aundef, aundef, aundef, aundef, aundef, aundef, aundef, aundef, aundef, aundef, aundef, aundef, aundef, aundef, aundef, aundef, aundef, aundef, aundef, aundef, aundef, aundef, aundef, aundef, aundef, aundef, aundef, aundef, aundef, aundef, aundef, aundef, aundef, aundef, aundef, aundef, aundef, aundef, aundef, aundef, aundef, aundef, aundef, aundef, aundef, aundef, aundef, aundef, aundef, aundef, aundef, aundef, aundef, aundef] 166, H, nx⟩ (finO false F5.results) := by kernel_rfl
theorem restB (cf : CF) (k : Nat) (tm : TM) (H : Heap) (nx : Nat) : stepK T cf (execK T cf k) (F5.body.part [2, 2]) ⟨tm, H, nx⟩ (finO false F5.results) =
    stepG T cf (execG T cf k) (F5.body.part [2, 2]) tm H nx (KC.g (finO false F5.results)) :=
  (stepG_eq T cf (execG_eq T cf k) _ ⟨tm, H, nx⟩ _).symm
end Go.Am
