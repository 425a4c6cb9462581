/-
  No cell of these rows narrows 'for every input' (looked for: loops, veiled, ifaces, maps, wideKeys, modest, calm, conditions, laid).
  DERIVED. THE GIVEN ROWS OF THIS SEAT. 5 by the template 'for every input the law returns true; each argument reads behind the call as it read before'; 0 by the template 'total and deterministic' (their statements: YtgkokjkoifdbnaaGreatTotals.lean).
  GIVEN WITH THE SEED: the statements are not yours to turn. If you find one false, say at which input.
  Laid BY PROGRAM, IN A SANDBOX (cutbox-rows.mjs): the forced cells as the released guide's own fill.sh prints them over the translation 6c7b7ddd2f9689a3… (all of the seat's roots in one cut). By AI agents, Wed Nov 11 2026. No macro, syntax, notation, axiom, sorry.
-/
import Derived.Test.YtgkokjkoifdbnaaGreatChecked
import GoSem.Claim
import GoSem.ClaimJoined
import GoSem.ClaimMapViews
import Derived.JoinedTies
import Derived.KernelRfl
namespace Go.Proofs.YtgkokjkoifdbnaaGreat
/- THE CELL 'sum', in the pinned program and in every row, IS THE sha256 OF THE DUMP (.gsa) THAT YtgkokjkoifdbnaaGreatProg.lean LOADS. Nothing in Lean hashes anything: it is a label: what it is worth is what the hold of that sum in a sandbox is worth. -/
noncomputable def Tryz.pinned : Pinned := { name := "ytgkokjkoifdbnaagreat", sum := "6c7b7ddd2f9689a37cf3cd4a05f1935bf95bd7eeb14ec298cac04d13e34b426a", checked := Tryz.checked }
namespace Rows
def none {H : Type} : Left H := { results := [], args := [] }

/-- 'arraslaw26.ReplicaFull': WHATEVER THE INPUT: true; the input reads as it did. -/
def replicaFullSpec : ChangeSpec := { name := "replicaFull", fn := fun _ => fun
  | [d] => { results := [.lit (.bool true)], args := [d] }
  | _ => none }
def replicaFullRow : OpenClaim := { program := "ytgkokjkoifdbnaagreat", sum := "6c7b7ddd2f9689a37cf3cd4a05f1935bf95bd7eeb14ec298cac04d13e34b426a", func := "arras/arraslaw26.ReplicaFull", spec := "replicaFull", inPlace := ["slices.overlaps[arras/api.Node]", "slices.overlaps[arras/api.Look]", "slices.overlaps[arras/api.Reg]", "internal/bytealg.abigen_runtime_cmpstring", "slices.overlaps[arras/api.Op]"], unfollowed := true, recurses := true, plainKeys := false, apart := false }
def ReplicaFullSaid : Prop := replicaFullRow.holds Tryz.pinned (OpenSpec.ofChange replicaFullSpec)

/-- ITS FALSE NEIGHBOUR: 'it returns false'. Refute it at one input. -/
def replicaFullWrong : ChangeSpec := { name := "replicaFull", fn := fun _ => fun
  | [d] => { results := [.lit (.bool false)], args := [d] }
  | _ => none }
def ReplicaFullWrongFalsely : Prop := replicaFullRow.holds Tryz.pinned (OpenSpec.ofChange replicaFullWrong)

/-- 'arraslaw26.ReplicaRestores': WHATEVER THE INPUT: true; the input reads as it did. -/
def replicaRestoresSpec : ChangeSpec := { name := "replicaRestores", fn := fun _ => fun
  | [d] => { results := [.lit (.bool true)], args := [d] }
  | _ => none }
def replicaRestoresRow : OpenClaim := { program := "ytgkokjkoifdbnaagreat", sum := "6c7b7ddd2f9689a37cf3cd4a05f1935bf95bd7eeb14ec298cac04d13e34b426a", func := "arras/arraslaw26.ReplicaRestores", spec := "replicaRestores", inPlace := ["slices.overlaps[arras/api.Node]", "slices.overlaps[arras/api.Look]", "slices.overlaps[arras/api.Reg]", "internal/bytealg.abigen_runtime_cmpstring", "slices.overlaps[arras/api.Op]"], unfollowed := true, recurses := true, plainKeys := false, apart := false }
def ReplicaRestoresSaid : Prop := replicaRestoresRow.holds Tryz.pinned (OpenSpec.ofChange replicaRestoresSpec)

/-- ITS FALSE NEIGHBOUR: 'it returns false'. Refute it at one input. -/
def replicaRestoresWrong : ChangeSpec := { name := "replicaRestores", fn := fun _ => fun
  | [d] => { results := [.lit (.bool false)], args := [d] }
  | _ => none }
def ReplicaRestoresWrongFalsely : Prop := replicaRestoresRow.holds Tryz.pinned (OpenSpec.ofChange replicaRestoresWrong)

/-- 'arraslaw26.ReplicaBatches': WHATEVER THE INPUT: true; the input reads as it did. -/
def replicaBatchesSpec : ChangeSpec := { name := "replicaBatches", fn := fun _ => fun
  | [d] => { results := [.lit (.bool true)], args := [d] }
  | _ => none }
def replicaBatchesRow : OpenClaim := { program := "ytgkokjkoifdbnaagreat", sum := "6c7b7ddd2f9689a37cf3cd4a05f1935bf95bd7eeb14ec298cac04d13e34b426a", func := "arras/arraslaw26.ReplicaBatches", spec := "replicaBatches", inPlace := ["slices.overlaps[arras/api.Node]", "slices.overlaps[arras/api.Look]", "slices.overlaps[arras/api.Reg]", "internal/bytealg.abigen_runtime_cmpstring", "slices.overlaps[arras/api.Op]"], unfollowed := true, recurses := true, plainKeys := false, apart := false }
def ReplicaBatchesSaid : Prop := replicaBatchesRow.holds Tryz.pinned (OpenSpec.ofChange replicaBatchesSpec)

/-- ITS FALSE NEIGHBOUR: 'it returns false'. Refute it at one input. -/
def replicaBatchesWrong : ChangeSpec := { name := "replicaBatches", fn := fun _ => fun
  | [d] => { results := [.lit (.bool false)], args := [d] }
  | _ => none }
def ReplicaBatchesWrongFalsely : Prop := replicaBatchesRow.holds Tryz.pinned (OpenSpec.ofChange replicaBatchesWrong)

/-- 'arraslaw26.ReplicaHolds': WHATEVER THE INPUT: true; the input reads as it did. -/
def replicaHoldsSpec : ChangeSpec := { name := "replicaHolds", fn := fun _ => fun
  | [d] => { results := [.lit (.bool true)], args := [d] }
  | _ => none }
def replicaHoldsRow : OpenClaim := { program := "ytgkokjkoifdbnaagreat", sum := "6c7b7ddd2f9689a37cf3cd4a05f1935bf95bd7eeb14ec298cac04d13e34b426a", func := "arras/arraslaw26.ReplicaHolds", spec := "replicaHolds", inPlace := ["slices.overlaps[arras/api.Node]", "slices.overlaps[arras/api.Look]", "slices.overlaps[arras/api.Reg]", "slices.overlaps[arras/api.Op]", "internal/bytealg.abigen_runtime_cmpstring"], unfollowed := true, recurses := true, plainKeys := false, apart := false }
def ReplicaHoldsSaid : Prop := replicaHoldsRow.holds Tryz.pinned (OpenSpec.ofChange replicaHoldsSpec)

/-- ITS FALSE NEIGHBOUR: 'it returns false'. Refute it at one input. -/
def replicaHoldsWrong : ChangeSpec := { name := "replicaHolds", fn := fun _ => fun
  | [d] => { results := [.lit (.bool false)], args := [d] }
  | _ => none }
def ReplicaHoldsWrongFalsely : Prop := replicaHoldsRow.holds Tryz.pinned (OpenSpec.ofChange replicaHoldsWrong)

/-- 'arraslaw27.KeeperQuiet': WHATEVER THE INPUT: true; the input reads as it did. -/
def keeperQuietSpec : ChangeSpec := { name := "keeperQuiet", fn := fun _ => fun
  | [d] => { results := [.lit (.bool true)], args := [d] }
  | _ => none }
def keeperQuietRow : OpenClaim := { program := "ytgkokjkoifdbnaagreat", sum := "6c7b7ddd2f9689a37cf3cd4a05f1935bf95bd7eeb14ec298cac04d13e34b426a", func := "arras/arraslaw27.KeeperQuiet", spec := "keeperQuiet", inPlace := ["slices.overlaps[arras/api.Node]", "slices.overlaps[arras/api.Look]", "slices.overlaps[arras/api.Reg]", "internal/bytealg.abigen_runtime_cmpstring", "slices.overlaps[arras/api.Op]"], unfollowed := true, recurses := true, plainKeys := false, apart := false }
def KeeperQuietSaid : Prop := keeperQuietRow.holds Tryz.pinned (OpenSpec.ofChange keeperQuietSpec)

/-- ITS FALSE NEIGHBOUR: 'it returns false'. Refute it at one input. -/
def keeperQuietWrong : ChangeSpec := { name := "keeperQuiet", fn := fun _ => fun
  | [d] => { results := [.lit (.bool false)], args := [d] }
  | _ => none }
def KeeperQuietWrongFalsely : Prop := keeperQuietRow.holds Tryz.pinned (OpenSpec.ofChange keeperQuietWrong)

/- THE SECOND FORM. 'bulk': how many values and letters a reading holds, each counted each time it is reached (what is shared counts as often as it is met; a slice's spare places count too). A statement '..UptoSaid' is the law's where the arguments, and the package variables that the reading takes, are together of bulk at most 1048576: NARROWER than '..Said'. Prove '..Said' where nothing that the law and all that it calls make is longer than what came in: it says more and counts as full. Else prove '..UptoSaid'. A law counts once. -/
mutual
def uptoBulk {H : Type} : DataW H → Nat
  | .lit (.string bytes) => bytes.length + 1
  | .lit _ => 1
  | .nil => 1
  | .ptr d => uptoBulk d + 1
  | .slice elems spare => uptoBulkAll elems + uptoBulkAll spare + 1
  | .agg parts => uptoBulkAll parts + 1
  | .iface _ d => uptoBulk d + 1
  | .map entries => uptoBulkEntries entries + 1
  | .held _ => 1
def uptoBulkAll {H : Type} : List (DataW H) → Nat
  | [] => 0
  | d :: r => uptoBulk d + uptoBulkAll r
def uptoBulkEntries {H : Type} : List (Lit × DataW H) → Nat
  | [] => 0
  | x :: r => uptoBulkEntry x + uptoBulkEntries r
def uptoBulkEntry {H : Type} : Lit × DataW H → Nat
  | (.string bytes, d) => bytes.length + uptoBulk d + 1
  | (_, d) => uptoBulk d + 1
 end
def uptoSmall : (H : Type) → List (DataW H) → Bool := fun _ ds => decide (uptoBulkAll ds ≤ 1048576)
def OpenSpec.upto (s : _root_.Go.ChangeSpec) : _root_.Go.OpenSpec := { _root_.Go.OpenSpec.ofChange s with cond := some uptoSmall }

/-- 'arraslaw26.ReplicaFull', WHERE WHAT IT READS IS OF BULK AT MOST 1048576: true; the input reads as it did. -/
def replicaFullUptoRow : OpenClaim := { program := "ytgkokjkoifdbnaagreat", sum := "6c7b7ddd2f9689a37cf3cd4a05f1935bf95bd7eeb14ec298cac04d13e34b426a", func := "arras/arraslaw26.ReplicaFull", spec := "replicaFull", inPlace := ["slices.overlaps[arras/api.Node]", "slices.overlaps[arras/api.Look]", "slices.overlaps[arras/api.Reg]", "internal/bytealg.abigen_runtime_cmpstring", "slices.overlaps[arras/api.Op]"], unfollowed := true, recurses := true, plainKeys := false, apart := false, narrowed := true }
def ReplicaFullUptoSaid : Prop := replicaFullUptoRow.holds Tryz.pinned (OpenSpec.upto replicaFullSpec)

/-- 'arraslaw26.ReplicaRestores', WHERE WHAT IT READS IS OF BULK AT MOST 1048576: true; the input reads as it did. -/
def replicaRestoresUptoRow : OpenClaim := { program := "ytgkokjkoifdbnaagreat", sum := "6c7b7ddd2f9689a37cf3cd4a05f1935bf95bd7eeb14ec298cac04d13e34b426a", func := "arras/arraslaw26.ReplicaRestores", spec := "replicaRestores", inPlace := ["slices.overlaps[arras/api.Node]", "slices.overlaps[arras/api.Look]", "slices.overlaps[arras/api.Reg]", "internal/bytealg.abigen_runtime_cmpstring", "slices.overlaps[arras/api.Op]"], unfollowed := true, recurses := true, plainKeys := false, apart := false, narrowed := true }
def ReplicaRestoresUptoSaid : Prop := replicaRestoresUptoRow.holds Tryz.pinned (OpenSpec.upto replicaRestoresSpec)

/-- 'arraslaw26.ReplicaBatches', WHERE WHAT IT READS IS OF BULK AT MOST 1048576: true; the input reads as it did. -/
def replicaBatchesUptoRow : OpenClaim := { program := "ytgkokjkoifdbnaagreat", sum := "6c7b7ddd2f9689a37cf3cd4a05f1935bf95bd7eeb14ec298cac04d13e34b426a", func := "arras/arraslaw26.ReplicaBatches", spec := "replicaBatches", inPlace := ["slices.overlaps[arras/api.Node]", "slices.overlaps[arras/api.Look]", "slices.overlaps[arras/api.Reg]", "internal/bytealg.abigen_runtime_cmpstring", "slices.overlaps[arras/api.Op]"], unfollowed := true, recurses := true, plainKeys := false, apart := false, narrowed := true }
def ReplicaBatchesUptoSaid : Prop := replicaBatchesUptoRow.holds Tryz.pinned (OpenSpec.upto replicaBatchesSpec)

/-- 'arraslaw26.ReplicaHolds', WHERE WHAT IT READS IS OF BULK AT MOST 1048576: true; the input reads as it did. -/
def replicaHoldsUptoRow : OpenClaim := { program := "ytgkokjkoifdbnaagreat", sum := "6c7b7ddd2f9689a37cf3cd4a05f1935bf95bd7eeb14ec298cac04d13e34b426a", func := "arras/arraslaw26.ReplicaHolds", spec := "replicaHolds", inPlace := ["slices.overlaps[arras/api.Node]", "slices.overlaps[arras/api.Look]", "slices.overlaps[arras/api.Reg]", "slices.overlaps[arras/api.Op]", "internal/bytealg.abigen_runtime_cmpstring"], unfollowed := true, recurses := true, plainKeys := false, apart := false, narrowed := true }
def ReplicaHoldsUptoSaid : Prop := replicaHoldsUptoRow.holds Tryz.pinned (OpenSpec.upto replicaHoldsSpec)

/-- 'arraslaw27.KeeperQuiet', WHERE WHAT IT READS IS OF BULK AT MOST 1048576: true; the input reads as it did. -/
def keeperQuietUptoRow : OpenClaim := { program := "ytgkokjkoifdbnaagreat", sum := "6c7b7ddd2f9689a37cf3cd4a05f1935bf95bd7eeb14ec298cac04d13e34b426a", func := "arras/arraslaw27.KeeperQuiet", spec := "keeperQuiet", inPlace := ["slices.overlaps[arras/api.Node]", "slices.overlaps[arras/api.Look]", "slices.overlaps[arras/api.Reg]", "internal/bytealg.abigen_runtime_cmpstring", "slices.overlaps[arras/api.Op]"], unfollowed := true, recurses := true, plainKeys := false, apart := false, narrowed := true }
def KeeperQuietUptoSaid : Prop := keeperQuietUptoRow.holds Tryz.pinned (OpenSpec.upto keeperQuietSpec)

end Rows
end Go.Proofs.YtgkokjkoifdbnaaGreat
