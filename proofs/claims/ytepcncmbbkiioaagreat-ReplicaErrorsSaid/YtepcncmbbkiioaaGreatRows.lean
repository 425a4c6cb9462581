/-
  No cell of these rows narrows 'for every input' (looked for: loops, veiled, ifaces, maps, wideKeys, modest, calm, conditions, laid).
  DERIVED. THE GIVEN ROWS OF THIS SEAT. 12 by the template 'for every input the law returns true; each argument reads behind the call as it read before'; 0 by the template 'total and deterministic' (their statements: YtepcncmbbkiioaaGreatTotals.lean).
  GIVEN WITH THE SEED: the statements are not yours to turn. If you find one false, say at which input.
  Laid BY PROGRAM, IN A SANDBOX (cutbox-rows.mjs): the forced cells as the released guide's own fill.sh prints them over the translation 93c9050efd7be925… (all of the seat's roots in one cut). By AI agents, Wed Nov 11 2026. No macro, syntax, notation, axiom, sorry.
-/
import Derived.Test.YtepcncmbbkiioaaGreatChecked
import GoSem.Claim
import GoSem.ClaimJoined
import GoSem.ClaimMapViews
import Derived.JoinedTies
import Derived.KernelRfl
namespace Go.Proofs.YtepcncmbbkiioaaGreat
/- THE CELL 'sum', in the pinned program and in every row, IS THE sha256 OF THE DUMP (.gsa) THAT YtepcncmbbkiioaaGreatProg.lean LOADS. Nothing in Lean hashes anything: it is a label: what it is worth is what the hold of that sum in a sandbox is worth. -/
noncomputable def Tryz.pinned : Pinned := { name := "ytepcncmbbkiioaagreat", sum := "93c9050efd7be92566c6330ba0b23e2d8f103d265aec1991edb53c635bff0884", checked := Tryz.checked }
namespace Rows
def none {H : Type} : Left H := { results := [], args := [] }

/-- 'arraslaw26.ReplicaErrors': WHATEVER THE INPUT: true; the input reads as it did. -/
def replicaErrorsSpec : ChangeSpec := { name := "replicaErrors", fn := fun _ => fun
  | [d] => { results := [.lit (.bool true)], args := [d] }
  | _ => none }
def replicaErrorsRow : OpenClaim := { program := "ytepcncmbbkiioaagreat", sum := "93c9050efd7be92566c6330ba0b23e2d8f103d265aec1991edb53c635bff0884", func := "arras/arraslaw26.ReplicaErrors", spec := "replicaErrors", inPlace := ["slices.overlaps[arras/api.Node]", "slices.overlaps[arras/api.Look]", "slices.overlaps[arras/api.Reg]", "internal/bytealg.abigen_runtime_cmpstring", "slices.overlaps[arras/api.Op]"], unfollowed := true, recurses := true, plainKeys := false, apart := false }
def ReplicaErrorsSaid : Prop := replicaErrorsRow.holds Tryz.pinned (OpenSpec.ofChange replicaErrorsSpec)

/-- ITS FALSE NEIGHBOUR: 'it returns false'. Refute it at one input. -/
def replicaErrorsWrong : ChangeSpec := { name := "replicaErrors", fn := fun _ => fun
  | [d] => { results := [.lit (.bool false)], args := [d] }
  | _ => none }
def ReplicaErrorsWrongFalsely : Prop := replicaErrorsRow.holds Tryz.pinned (OpenSpec.ofChange replicaErrorsWrong)

/-- 'arraslaw26.ReplicaFull': WHATEVER THE INPUT: true; the input reads as it did. -/
def replicaFullSpec : ChangeSpec := { name := "replicaFull", fn := fun _ => fun
  | [d] => { results := [.lit (.bool true)], args := [d] }
  | _ => none }
def replicaFullRow : OpenClaim := { program := "ytepcncmbbkiioaagreat", sum := "93c9050efd7be92566c6330ba0b23e2d8f103d265aec1991edb53c635bff0884", func := "arras/arraslaw26.ReplicaFull", spec := "replicaFull", inPlace := ["slices.overlaps[arras/api.Node]", "slices.overlaps[arras/api.Look]", "slices.overlaps[arras/api.Reg]", "internal/bytealg.abigen_runtime_cmpstring", "slices.overlaps[arras/api.Op]"], unfollowed := true, recurses := true, plainKeys := false, apart := false }
def ReplicaFullSaid : Prop := replicaFullRow.holds Tryz.pinned (OpenSpec.ofChange replicaFullSpec)

/-- ITS FALSE NEIGHBOUR: 'it returns false'. Refute it at one input. -/
def replicaFullWrong : ChangeSpec := { name := "replicaFull", fn := fun _ => fun
  | [d] => { results := [.lit (.bool false)], args := [d] }
  | _ => none }
def ReplicaFullWrongFalsely : Prop := replicaFullRow.holds Tryz.pinned (OpenSpec.ofChange replicaFullWrong)

/-- 'arraslaw26.ReplicaRestores': WHATEVER THE INPUT: true; the input reads as it did. -/
def replicaRestoresSpec : ChangeSpec := { name := "replicaRestores", fn := fun _ => fun
  | [d] => { results := [.lit (.bool true)], args := [d] }
  | _ => none }
def replicaRestoresRow : OpenClaim := { program := "ytepcncmbbkiioaagreat", sum := "93c9050efd7be92566c6330ba0b23e2d8f103d265aec1991edb53c635bff0884", func := "arras/arraslaw26.ReplicaRestores", spec := "replicaRestores", inPlace := ["slices.overlaps[arras/api.Node]", "slices.overlaps[arras/api.Look]", "slices.overlaps[arras/api.Reg]", "internal/bytealg.abigen_runtime_cmpstring", "slices.overlaps[arras/api.Op]"], unfollowed := true, recurses := true, plainKeys := false, apart := false }
def ReplicaRestoresSaid : Prop := replicaRestoresRow.holds Tryz.pinned (OpenSpec.ofChange replicaRestoresSpec)

/-- ITS FALSE NEIGHBOUR: 'it returns false'. Refute it at one input. -/
def replicaRestoresWrong : ChangeSpec := { name := "replicaRestores", fn := fun _ => fun
  | [d] => { results := [.lit (.bool false)], args := [d] }
  | _ => none }
def ReplicaRestoresWrongFalsely : Prop := replicaRestoresRow.holds Tryz.pinned (OpenSpec.ofChange replicaRestoresWrong)

/-- 'arraslaw26.ReplicaSame': WHATEVER THE INPUT: true; the input reads as it did. -/
def replicaSameSpec : ChangeSpec := { name := "replicaSame", fn := fun _ => fun
  | [d] => { results := [.lit (.bool true)], args := [d] }
  | _ => none }
def replicaSameRow : OpenClaim := { program := "ytepcncmbbkiioaagreat", sum := "93c9050efd7be92566c6330ba0b23e2d8f103d265aec1991edb53c635bff0884", func := "arras/arraslaw26.ReplicaSame", spec := "replicaSame", inPlace := ["slices.overlaps[arras/api.Node]", "slices.overlaps[arras/api.Look]", "slices.overlaps[arras/api.Reg]", "internal/bytealg.abigen_runtime_cmpstring", "slices.overlaps[arras/api.Op]"], unfollowed := true, recurses := true, plainKeys := false, apart := false }
def ReplicaSameSaid : Prop := replicaSameRow.holds Tryz.pinned (OpenSpec.ofChange replicaSameSpec)

/-- ITS FALSE NEIGHBOUR: 'it returns false'. Refute it at one input. -/
def replicaSameWrong : ChangeSpec := { name := "replicaSame", fn := fun _ => fun
  | [d] => { results := [.lit (.bool false)], args := [d] }
  | _ => none }
def ReplicaSameWrongFalsely : Prop := replicaSameRow.holds Tryz.pinned (OpenSpec.ofChange replicaSameWrong)

/-- 'arraslaw26.ReplicaBatches': WHATEVER THE INPUT: true; the input reads as it did. -/
def replicaBatchesSpec : ChangeSpec := { name := "replicaBatches", fn := fun _ => fun
  | [d] => { results := [.lit (.bool true)], args := [d] }
  | _ => none }
def replicaBatchesRow : OpenClaim := { program := "ytepcncmbbkiioaagreat", sum := "93c9050efd7be92566c6330ba0b23e2d8f103d265aec1991edb53c635bff0884", func := "arras/arraslaw26.ReplicaBatches", spec := "replicaBatches", inPlace := ["slices.overlaps[arras/api.Node]", "slices.overlaps[arras/api.Look]", "slices.overlaps[arras/api.Reg]", "internal/bytealg.abigen_runtime_cmpstring", "slices.overlaps[arras/api.Op]"], unfollowed := true, recurses := true, plainKeys := false, apart := false }
def ReplicaBatchesSaid : Prop := replicaBatchesRow.holds Tryz.pinned (OpenSpec.ofChange replicaBatchesSpec)

/-- ITS FALSE NEIGHBOUR: 'it returns false'. Refute it at one input. -/
def replicaBatchesWrong : ChangeSpec := { name := "replicaBatches", fn := fun _ => fun
  | [d] => { results := [.lit (.bool false)], args := [d] }
  | _ => none }
def ReplicaBatchesWrongFalsely : Prop := replicaBatchesRow.holds Tryz.pinned (OpenSpec.ofChange replicaBatchesWrong)

/-- 'arraslaw26.ReplicaHolds': WHATEVER THE INPUT: true; the input reads as it did. -/
def replicaHoldsSpec : ChangeSpec := { name := "replicaHolds", fn := fun _ => fun
  | [d] => { results := [.lit (.bool true)], args := [d] }
  | _ => none }
def replicaHoldsRow : OpenClaim := { program := "ytepcncmbbkiioaagreat", sum := "93c9050efd7be92566c6330ba0b23e2d8f103d265aec1991edb53c635bff0884", func := "arras/arraslaw26.ReplicaHolds", spec := "replicaHolds", inPlace := ["slices.overlaps[arras/api.Node]", "slices.overlaps[arras/api.Look]", "slices.overlaps[arras/api.Reg]", "slices.overlaps[arras/api.Op]", "internal/bytealg.abigen_runtime_cmpstring"], unfollowed := true, recurses := true, plainKeys := false, apart := false }
def ReplicaHoldsSaid : Prop := replicaHoldsRow.holds Tryz.pinned (OpenSpec.ofChange replicaHoldsSpec)

/-- ITS FALSE NEIGHBOUR: 'it returns false'. Refute it at one input. -/
def replicaHoldsWrong : ChangeSpec := { name := "replicaHolds", fn := fun _ => fun
  | [d] => { results := [.lit (.bool false)], args := [d] }
  | _ => none }
def ReplicaHoldsWrongFalsely : Prop := replicaHoldsRow.holds Tryz.pinned (OpenSpec.ofChange replicaHoldsWrong)

/-- 'arraslaw26.ReplicaMakes': WHATEVER THE INPUT: true; the input reads as it did. -/
def replicaMakesSpec : ChangeSpec := { name := "replicaMakes", fn := fun _ => fun
  | [d] => { results := [.lit (.bool true)], args := [d] }
  | _ => none }
def replicaMakesRow : OpenClaim := { program := "ytepcncmbbkiioaagreat", sum := "93c9050efd7be92566c6330ba0b23e2d8f103d265aec1991edb53c635bff0884", func := "arras/arraslaw26.ReplicaMakes", spec := "replicaMakes", inPlace := ["slices.overlaps[arras/api.Node]", "slices.overlaps[arras/api.Look]", "slices.overlaps[arras/api.Reg]", "slices.overlaps[arras/api.Op]", "internal/bytealg.abigen_runtime_cmpstring"], unfollowed := true, recurses := true, plainKeys := false, apart := false }
def ReplicaMakesSaid : Prop := replicaMakesRow.holds Tryz.pinned (OpenSpec.ofChange replicaMakesSpec)

/-- ITS FALSE NEIGHBOUR: 'it returns false'. Refute it at one input. -/
def replicaMakesWrong : ChangeSpec := { name := "replicaMakes", fn := fun _ => fun
  | [d] => { results := [.lit (.bool false)], args := [d] }
  | _ => none }
def ReplicaMakesWrongFalsely : Prop := replicaMakesRow.holds Tryz.pinned (OpenSpec.ofChange replicaMakesWrong)

/-- 'arraslaw26.ReplicaMoves': WHATEVER THE INPUT: true; the input reads as it did. -/
def replicaMovesSpec : ChangeSpec := { name := "replicaMoves", fn := fun _ => fun
  | [d] => { results := [.lit (.bool true)], args := [d] }
  | _ => none }
def replicaMovesRow : OpenClaim := { program := "ytepcncmbbkiioaagreat", sum := "93c9050efd7be92566c6330ba0b23e2d8f103d265aec1991edb53c635bff0884", func := "arras/arraslaw26.ReplicaMoves", spec := "replicaMoves", inPlace := ["slices.overlaps[arras/api.Node]", "slices.overlaps[arras/api.Look]", "slices.overlaps[arras/api.Reg]", "slices.overlaps[arras/api.Op]", "internal/bytealg.abigen_runtime_cmpstring"], unfollowed := true, recurses := true, plainKeys := false, apart := false }
def ReplicaMovesSaid : Prop := replicaMovesRow.holds Tryz.pinned (OpenSpec.ofChange replicaMovesSpec)

/-- ITS FALSE NEIGHBOUR: 'it returns false'. Refute it at one input. -/
def replicaMovesWrong : ChangeSpec := { name := "replicaMoves", fn := fun _ => fun
  | [d] => { results := [.lit (.bool false)], args := [d] }
  | _ => none }
def ReplicaMovesWrongFalsely : Prop := replicaMovesRow.holds Tryz.pinned (OpenSpec.ofChange replicaMovesWrong)

/-- 'arraslaw26.ReplicaDrops': WHATEVER THE INPUT: true; the input reads as it did. -/
def replicaDropsSpec : ChangeSpec := { name := "replicaDrops", fn := fun _ => fun
  | [d] => { results := [.lit (.bool true)], args := [d] }
  | _ => none }
def replicaDropsRow : OpenClaim := { program := "ytepcncmbbkiioaagreat", sum := "93c9050efd7be92566c6330ba0b23e2d8f103d265aec1991edb53c635bff0884", func := "arras/arraslaw26.ReplicaDrops", spec := "replicaDrops", inPlace := ["slices.overlaps[arras/api.Node]", "slices.overlaps[arras/api.Look]", "slices.overlaps[arras/api.Reg]", "slices.overlaps[arras/api.Op]", "internal/bytealg.abigen_runtime_cmpstring"], unfollowed := true, recurses := true, plainKeys := false, apart := false }
def ReplicaDropsSaid : Prop := replicaDropsRow.holds Tryz.pinned (OpenSpec.ofChange replicaDropsSpec)

/-- ITS FALSE NEIGHBOUR: 'it returns false'. Refute it at one input. -/
def replicaDropsWrong : ChangeSpec := { name := "replicaDrops", fn := fun _ => fun
  | [d] => { results := [.lit (.bool false)], args := [d] }
  | _ => none }
def ReplicaDropsWrongFalsely : Prop := replicaDropsRow.holds Tryz.pinned (OpenSpec.ofChange replicaDropsWrong)

/-- 'arraslaw26.ReplicaStyles': WHATEVER THE INPUT: true; the input reads as it did. -/
def replicaStylesSpec : ChangeSpec := { name := "replicaStyles", fn := fun _ => fun
  | [d] => { results := [.lit (.bool true)], args := [d] }
  | _ => none }
def replicaStylesRow : OpenClaim := { program := "ytepcncmbbkiioaagreat", sum := "93c9050efd7be92566c6330ba0b23e2d8f103d265aec1991edb53c635bff0884", func := "arras/arraslaw26.ReplicaStyles", spec := "replicaStyles", inPlace := ["slices.overlaps[arras/api.Node]", "slices.overlaps[arras/api.Look]", "slices.overlaps[arras/api.Reg]", "slices.overlaps[arras/api.Op]", "internal/bytealg.abigen_runtime_cmpstring"], unfollowed := true, recurses := true, plainKeys := false, apart := false }
def ReplicaStylesSaid : Prop := replicaStylesRow.holds Tryz.pinned (OpenSpec.ofChange replicaStylesSpec)

/-- ITS FALSE NEIGHBOUR: 'it returns false'. Refute it at one input. -/
def replicaStylesWrong : ChangeSpec := { name := "replicaStyles", fn := fun _ => fun
  | [d] => { results := [.lit (.bool false)], args := [d] }
  | _ => none }
def ReplicaStylesWrongFalsely : Prop := replicaStylesRow.holds Tryz.pinned (OpenSpec.ofChange replicaStylesWrong)

/-- 'arraslaw26.ReplicaShows': WHATEVER THE INPUT: true; the input reads as it did. -/
def replicaShowsSpec : ChangeSpec := { name := "replicaShows", fn := fun _ => fun
  | [d] => { results := [.lit (.bool true)], args := [d] }
  | _ => none }
def replicaShowsRow : OpenClaim := { program := "ytepcncmbbkiioaagreat", sum := "93c9050efd7be92566c6330ba0b23e2d8f103d265aec1991edb53c635bff0884", func := "arras/arraslaw26.ReplicaShows", spec := "replicaShows", inPlace := ["slices.overlaps[arras/api.Node]", "slices.overlaps[arras/api.Look]", "slices.overlaps[arras/api.Reg]", "slices.overlaps[arras/api.Op]", "internal/bytealg.abigen_runtime_cmpstring"], unfollowed := true, recurses := true, plainKeys := false, apart := false }
def ReplicaShowsSaid : Prop := replicaShowsRow.holds Tryz.pinned (OpenSpec.ofChange replicaShowsSpec)

/-- ITS FALSE NEIGHBOUR: 'it returns false'. Refute it at one input. -/
def replicaShowsWrong : ChangeSpec := { name := "replicaShows", fn := fun _ => fun
  | [d] => { results := [.lit (.bool false)], args := [d] }
  | _ => none }
def ReplicaShowsWrongFalsely : Prop := replicaShowsRow.holds Tryz.pinned (OpenSpec.ofChange replicaShowsWrong)

/-- 'arraslaw26.ReplicaTicks': WHATEVER THE INPUT: true; the input reads as it did. -/
def replicaTicksSpec : ChangeSpec := { name := "replicaTicks", fn := fun _ => fun
  | [d] => { results := [.lit (.bool true)], args := [d] }
  | _ => none }
def replicaTicksRow : OpenClaim := { program := "ytepcncmbbkiioaagreat", sum := "93c9050efd7be92566c6330ba0b23e2d8f103d265aec1991edb53c635bff0884", func := "arras/arraslaw26.ReplicaTicks", spec := "replicaTicks", inPlace := ["slices.overlaps[arras/api.Node]", "slices.overlaps[arras/api.Look]", "slices.overlaps[arras/api.Reg]", "slices.overlaps[arras/api.Op]", "internal/bytealg.abigen_runtime_cmpstring"], unfollowed := true, recurses := true, plainKeys := false, apart := false }
def ReplicaTicksSaid : Prop := replicaTicksRow.holds Tryz.pinned (OpenSpec.ofChange replicaTicksSpec)

/-- ITS FALSE NEIGHBOUR: 'it returns false'. Refute it at one input. -/
def replicaTicksWrong : ChangeSpec := { name := "replicaTicks", fn := fun _ => fun
  | [d] => { results := [.lit (.bool false)], args := [d] }
  | _ => none }
def ReplicaTicksWrongFalsely : Prop := replicaTicksRow.holds Tryz.pinned (OpenSpec.ofChange replicaTicksWrong)

/- THE SECOND FORM. 'bulk': how many values and letters a reading holds, each counted each time it is reached (what is shared counts as often as it is met; a slice's spare places count too). A statement '..UptoSaid' is the law's where the arguments, and the package variables that the reading takes, are together of bulk at most 1048576: NARROWER than '..Said'. Prove '..Said' where nothing that the law and all that it calls make is longer than what came in: it says more and counts as full. Else prove '..UptoSaid'. A law counts once. -/
mutual
def uptoBulk {H : Type} : DataW H → Nat
  | .lit (.string bytes) => bytes.length + 1
  | .lit _ => 1
  | .nil => 1
  | .ptr d => uptoBulk d + 1
  | .slice elems spare => uptoBulkAll elems + uptoBulkAll spare + 1
  | .agg parts => uptoBulkAll parts + 1
  | .iface _ d => uptoBulk d + 1
  | .map entries => uptoBulkEntries entries + 1
  | .held _ => 1
def uptoBulkAll {H : Type} : List (DataW H) → Nat
  | [] => 0
  | d :: r => uptoBulk d + uptoBulkAll r
def uptoBulkEntries {H : Type} : List (Lit × DataW H) → Nat
  | [] => 0
  | x :: r => uptoBulkEntry x + uptoBulkEntries r
def uptoBulkEntry {H : Type} : Lit × DataW H → Nat
  | (.string bytes, d) => bytes.length + uptoBulk d + 1
  | (_, d) => uptoBulk d + 1
 end
def uptoSmall : (H : Type) → List (DataW H) → Bool := fun _ ds => decide (uptoBulkAll ds ≤ 1048576)
def OpenSpec.upto (s : _root_.Go.ChangeSpec) : _root_.Go.OpenSpec := { _root_.Go.OpenSpec.ofChange s with cond := some uptoSmall }

/-- 'arraslaw26.ReplicaErrors', WHERE WHAT IT READS IS OF BULK AT MOST 1048576: true; the input reads as it did. -/
def replicaErrorsUptoRow : OpenClaim := { program := "ytepcncmbbkiioaagreat", sum := "93c9050efd7be92566c6330ba0b23e2d8f103d265aec1991edb53c635bff0884", func := "arras/arraslaw26.ReplicaErrors", spec := "replicaErrors", inPlace := ["slices.overlaps[arras/api.Node]", "slices.overlaps[arras/api.Look]", "slices.overlaps[arras/api.Reg]", "internal/bytealg.abigen_runtime_cmpstring", "slices.overlaps[arras/api.Op]"], unfollowed := true, recurses := true, plainKeys := false, apart := false, narrowed := true }
def ReplicaErrorsUptoSaid : Prop := replicaErrorsUptoRow.holds Tryz.pinned (OpenSpec.upto replicaErrorsSpec)

/-- 'arraslaw26.ReplicaFull', WHERE WHAT IT READS IS OF BULK AT MOST 1048576: true; the input reads as it did. -/
def replicaFullUptoRow : OpenClaim := { program := "ytepcncmbbkiioaagreat", sum := "93c9050efd7be92566c6330ba0b23e2d8f103d265aec1991edb53c635bff0884", func := "arras/arraslaw26.ReplicaFull", spec := "replicaFull", inPlace := ["slices.overlaps[arras/api.Node]", "slices.overlaps[arras/api.Look]", "slices.overlaps[arras/api.Reg]", "internal/bytealg.abigen_runtime_cmpstring", "slices.overlaps[arras/api.Op]"], unfollowed := true, recurses := true, plainKeys := false, apart := false, narrowed := true }
def ReplicaFullUptoSaid : Prop := replicaFullUptoRow.holds Tryz.pinned (OpenSpec.upto replicaFullSpec)

/-- 'arraslaw26.ReplicaRestores', WHERE WHAT IT READS IS OF BULK AT MOST 1048576: true; the input reads as it did. -/
def replicaRestoresUptoRow : OpenClaim := { program := "ytepcncmbbkiioaagreat", sum := "93c9050efd7be92566c6330ba0b23e2d8f103d265aec1991edb53c635bff0884", func := "arras/arraslaw26.ReplicaRestores", spec := "replicaRestores", inPlace := ["slices.overlaps[arras/api.Node]", "slices.overlaps[arras/api.Look]", "slices.overlaps[arras/api.Reg]", "internal/bytealg.abigen_runtime_cmpstring", "slices.overlaps[arras/api.Op]"], unfollowed := true, recurses := true, plainKeys := false, apart := false, narrowed := true }
def ReplicaRestoresUptoSaid : Prop := replicaRestoresUptoRow.holds Tryz.pinned (OpenSpec.upto replicaRestoresSpec)

/-- 'arraslaw26.ReplicaSame', WHERE WHAT IT READS IS OF BULK AT MOST 1048576: true; the input reads as it did. -/
def replicaSameUptoRow : OpenClaim := { program := "ytepcncmbbkiioaagreat", sum := "93c9050efd7be92566c6330ba0b23e2d8f103d265aec1991edb53c635bff0884", func := "arras/arraslaw26.ReplicaSame", spec := "replicaSame", inPlace := ["slices.overlaps[arras/api.Node]", "slices.overlaps[arras/api.Look]", "slices.overlaps[arras/api.Reg]", "internal/bytealg.abigen_runtime_cmpstring", "slices.overlaps[arras/api.Op]"], unfollowed := true, recurses := true, plainKeys := false, apart := false, narrowed := true }
def ReplicaSameUptoSaid : Prop := replicaSameUptoRow.holds Tryz.pinned (OpenSpec.upto replicaSameSpec)

/-- 'arraslaw26.ReplicaBatches', WHERE WHAT IT READS IS OF BULK AT MOST 1048576: true; the input reads as it did. -/
def replicaBatchesUptoRow : OpenClaim := { program := "ytepcncmbbkiioaagreat", sum := "93c9050efd7be92566c6330ba0b23e2d8f103d265aec1991edb53c635bff0884", func := "arras/arraslaw26.ReplicaBatches", spec := "replicaBatches", inPlace := ["slices.overlaps[arras/api.Node]", "slices.overlaps[arras/api.Look]", "slices.overlaps[arras/api.Reg]", "internal/bytealg.abigen_runtime_cmpstring", "slices.overlaps[arras/api.Op]"], unfollowed := true, recurses := true, plainKeys := false, apart := false, narrowed := true }
def ReplicaBatchesUptoSaid : Prop := replicaBatchesUptoRow.holds Tryz.pinned (OpenSpec.upto replicaBatchesSpec)

/-- 'arraslaw26.ReplicaHolds', WHERE WHAT IT READS IS OF BULK AT MOST 1048576: true; the input reads as it did. -/
def replicaHoldsUptoRow : OpenClaim := { program := "ytepcncmbbkiioaagreat", sum := "93c9050efd7be92566c6330ba0b23e2d8f103d265aec1991edb53c635bff0884", func := "arras/arraslaw26.ReplicaHolds", spec := "replicaHolds", inPlace := ["slices.overlaps[arras/api.Node]", "slices.overlaps[arras/api.Look]", "slices.overlaps[arras/api.Reg]", "slices.overlaps[arras/api.Op]", "internal/bytealg.abigen_runtime_cmpstring"], unfollowed := true, recurses := true, plainKeys := false, apart := false, narrowed := true }
def ReplicaHoldsUptoSaid : Prop := replicaHoldsUptoRow.holds Tryz.pinned (OpenSpec.upto replicaHoldsSpec)

/-- 'arraslaw26.ReplicaMakes', WHERE WHAT IT READS IS OF BULK AT MOST 1048576: true; the input reads as it did. -/
def replicaMakesUptoRow : OpenClaim := { program := "ytepcncmbbkiioaagreat", sum := "93c9050efd7be92566c6330ba0b23e2d8f103d265aec1991edb53c635bff0884", func := "arras/arraslaw26.ReplicaMakes", spec := "replicaMakes", inPlace := ["slices.overlaps[arras/api.Node]", "slices.overlaps[arras/api.Look]", "slices.overlaps[arras/api.Reg]", "slices.overlaps[arras/api.Op]", "internal/bytealg.abigen_runtime_cmpstring"], unfollowed := true, recurses := true, plainKeys := false, apart := false, narrowed := true }
def ReplicaMakesUptoSaid : Prop := replicaMakesUptoRow.holds Tryz.pinned (OpenSpec.upto replicaMakesSpec)

/-- 'arraslaw26.ReplicaMoves', WHERE WHAT IT READS IS OF BULK AT MOST 1048576: true; the input reads as it did. -/
def replicaMovesUptoRow : OpenClaim := { program := "ytepcncmbbkiioaagreat", sum := "93c9050efd7be92566c6330ba0b23e2d8f103d265aec1991edb53c635bff0884", func := "arras/arraslaw26.ReplicaMoves", spec := "replicaMoves", inPlace := ["slices.overlaps[arras/api.Node]", "slices.overlaps[arras/api.Look]", "slices.overlaps[arras/api.Reg]", "slices.overlaps[arras/api.Op]", "internal/bytealg.abigen_runtime_cmpstring"], unfollowed := true, recurses := true, plainKeys := false, apart := false, narrowed := true }
def ReplicaMovesUptoSaid : Prop := replicaMovesUptoRow.holds Tryz.pinned (OpenSpec.upto replicaMovesSpec)

/-- 'arraslaw26.ReplicaDrops', WHERE WHAT IT READS IS OF BULK AT MOST 1048576: true; the input reads as it did. -/
def replicaDropsUptoRow : OpenClaim := { program := "ytepcncmbbkiioaagreat", sum := "93c9050efd7be92566c6330ba0b23e2d8f103d265aec1991edb53c635bff0884", func := "arras/arraslaw26.ReplicaDrops", spec := "replicaDrops", inPlace := ["slices.overlaps[arras/api.Node]", "slices.overlaps[arras/api.Look]", "slices.overlaps[arras/api.Reg]", "slices.overlaps[arras/api.Op]", "internal/bytealg.abigen_runtime_cmpstring"], unfollowed := true, recurses := true, plainKeys := false, apart := false, narrowed := true }
def ReplicaDropsUptoSaid : Prop := replicaDropsUptoRow.holds Tryz.pinned (OpenSpec.upto replicaDropsSpec)

/-- 'arraslaw26.ReplicaStyles', WHERE WHAT IT READS IS OF BULK AT MOST 1048576: true; the input reads as it did. -/
def replicaStylesUptoRow : OpenClaim := { program := "ytepcncmbbkiioaagreat", sum := "93c9050efd7be92566c6330ba0b23e2d8f103d265aec1991edb53c635bff0884", func := "arras/arraslaw26.ReplicaStyles", spec := "replicaStyles", inPlace := ["slices.overlaps[arras/api.Node]", "slices.overlaps[arras/api.Look]", "slices.overlaps[arras/api.Reg]", "slices.overlaps[arras/api.Op]", "internal/bytealg.abigen_runtime_cmpstring"], unfollowed := true, recurses := true, plainKeys := false, apart := false, narrowed := true }
def ReplicaStylesUptoSaid : Prop := replicaStylesUptoRow.holds Tryz.pinned (OpenSpec.upto replicaStylesSpec)

/-- 'arraslaw26.ReplicaShows', WHERE WHAT IT READS IS OF BULK AT MOST 1048576: true; the input reads as it did. -/
def replicaShowsUptoRow : OpenClaim := { program := "ytepcncmbbkiioaagreat", sum := "93c9050efd7be92566c6330ba0b23e2d8f103d265aec1991edb53c635bff0884", func := "arras/arraslaw26.ReplicaShows", spec := "replicaShows", inPlace := ["slices.overlaps[arras/api.Node]", "slices.overlaps[arras/api.Look]", "slices.overlaps[arras/api.Reg]", "slices.overlaps[arras/api.Op]", "internal/bytealg.abigen_runtime_cmpstring"], unfollowed := true, recurses := true, plainKeys := false, apart := false, narrowed := true }
def ReplicaShowsUptoSaid : Prop := replicaShowsUptoRow.holds Tryz.pinned (OpenSpec.upto replicaShowsSpec)

/-- 'arraslaw26.ReplicaTicks', WHERE WHAT IT READS IS OF BULK AT MOST 1048576: true; the input reads as it did. -/
def replicaTicksUptoRow : OpenClaim := { program := "ytepcncmbbkiioaagreat", sum := "93c9050efd7be92566c6330ba0b23e2d8f103d265aec1991edb53c635bff0884", func := "arras/arraslaw26.ReplicaTicks", spec := "replicaTicks", inPlace := ["slices.overlaps[arras/api.Node]", "slices.overlaps[arras/api.Look]", "slices.overlaps[arras/api.Reg]", "slices.overlaps[arras/api.Op]", "internal/bytealg.abigen_runtime_cmpstring"], unfollowed := true, recurses := true, plainKeys := false, apart := false, narrowed := true }
def ReplicaTicksUptoSaid : Prop := replicaTicksUptoRow.holds Tryz.pinned (OpenSpec.upto replicaTicksSpec)

end Rows
end Go.Proofs.YtepcncmbbkiioaaGreat
