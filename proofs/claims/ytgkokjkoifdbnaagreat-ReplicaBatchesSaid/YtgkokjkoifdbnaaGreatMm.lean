import Derived.Test.YtgkokjkoifdbnaaGreatL1
import Derived.Test.YtgkokjkoifdbnaaGreatB1
import Derived.Test.YtgkokjkoifdbnaaGreatTies
/- The model: what it tells is so. -/
namespace Go.Proofs.YtgkokjkoifdbnaaGreat
open Go.Am Go.Am.Fs
noncomputable abbrev mmB : Nat → Bool → List AV → Option AV := mmC 21 mWithin (mmC 228 mFind mm6)
theorem mmB_ok : MM Tryz.prog T mmB := MM.cons mixed tabOK (MM.cons mixed tabOK (MM.cons mixed tabOK (MM.cons mixed tabOK (MM.cons mixed tabOK (MM.cons mixed tabOK (MM.cons mixed tabOK (MM.cons mixed tabOK (MM.zero _ _) told1) told2) told3) told4) told5) told6) told7) (toldW _)
end Go.Proofs.YtgkokjkoifdbnaaGreat
