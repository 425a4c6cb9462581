import Derived.Test.YtgkokjkoifdbnaaGreatMemo
import Derived.Test.YtgkokjkoifdbnaaGreatFast2
/- An answer that is known, by a fast run. -/
namespace Go.Am
set_option autoImplicit false
noncomputable def isR (o : Option AV) (r : AV) : Bool := match o with
  | none => false
  | some a => avEq a r
theorem known {P : Program} (hm : P.follows .mixedOrders = true) {T : Table} {mm : Nat → Bool → List AV → Option AV} (h : TabOK P (compC P (withM T mm)) (withM T mm)) {n g : Nat} {b : Bool} {args : List AV} {r : AV} (hr : isR (ownAF (withM T mm) n g b args) r = true) :
    ∀ f m, T g = some (.code f m) → MemOK P (compC P T) f b args r := by
  unfold isR at hr
  rw [ownAF_eq] at hr
  split at hr
  · simp at hr
  · rename_i a ha
    rw [avEq_eq hr] at ha
    exact memOK_with hm h ha
end Go.Am
