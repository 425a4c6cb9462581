/- The closed facts of the row of ReplicaBatches, each by itself. -/
import Derived.Test.YtgkokjkoifdbnaaGreatRows
import Derived.JoinedOf
import Derived.KernelRfl
namespace Go.Proofs.YtgkokjkoifdbnaaGreat.replicaBatches
set_option maxRecDepth 100000
theorem andB {a b : Bool} (h : a = true) (k : b = true) : (a && b) = true := by rw [h, k]; rfl
theorem c0 : (Rows.replicaBatchesRow.wf (OpenSpec.ofChange Rows.replicaBatchesSpec)) = true := by kernel_rfl
theorem c1 : (laidOutB Tryz.prog) = true := by kernel_rfl
theorem c2 : (mapsRowed Tryz.prog) = true := by kernel_rfl
theorem c3 : (Tryz.f5.params.all (Tryz.prog.readableRec ·)) = true := by kernel_rfl
theorem c4 : (namedTie Tryz.prog Rows.replicaBatchesRow.named Rows.replicaBatchesSpec.vars) = true := by kernel_rfl
theorem c5 : ((Rows.replicaBatchesRow.stops == [])) = true := by kernel_rfl
theorem c6 : ((Tryz.prog.stops == [])) = true := by kernel_rfl
theorem c7 : ((Rows.replicaBatchesRow.knobs == [])) = true := by kernel_rfl
theorem c8 : ((Tryz.prog.stopKnobs == [])) = true := by kernel_rfl
theorem c9 : ((Rows.replicaBatchesRow.inPlace == Tryz.prog.inPlace 5)) = true := by kernel_rfl
theorem c10 : ((Rows.replicaBatchesRow.unfollowed == Tryz.prog.unfollowed 5)) = true := by kernel_rfl
theorem c11 : ((Rows.replicaBatchesRow.recurses == Tryz.prog.recurses 5)) = true := by kernel_rfl
theorem c12 : ((Rows.replicaBatchesRow.named == Tryz.prog.varsNamed 5)) = true := by kernel_rfl
theorem c13 : ((Rows.replicaBatchesRow.maps == (Tryz.f5.params.toList ++ Rows.replicaBatchesSpec.plain.varTypes Tryz.prog).any (Tryz.prog.mapsRec ·))) = true := by kernel_rfl
theorem c14 : ((Rows.replicaBatchesRow.ifaces == (Tryz.f5.params.toList ++ Rows.replicaBatchesSpec.plain.varTypes Tryz.prog).any (Tryz.prog.ifacesRec ·))) = true := by kernel_rfl
theorem c15 : ((Rows.replicaBatchesRow.mapsOut == Tryz.prog.mapsAmong Tryz.f5.resultTypes.toList)) = true := by kernel_rfl
theorem c16 : ((Rows.replicaBatchesRow.loops == (Tryz.f5.params.toList ++ Rows.replicaBatchesSpec.plain.varTypes Tryz.prog).any (Tryz.prog.loopsFrom ·))) = true := by kernel_rfl
theorem c17 : ((Rows.replicaBatchesRow.wideKeys == (Tryz.f5.params.toList ++ Rows.replicaBatchesSpec.plain.varTypes Tryz.prog ++ Tryz.f5.resultTypes.toList).any (Tryz.prog.wideKeysFrom ·))) = true := by kernel_rfl
theorem c18 : (Rows.replicaBatchesSpec.vars.all (Tryz.prog.varReadable ·)) = true := by kernel_rfl
theorem c19 : (Tryz.f5.resultTypes.all (fun t => Tryz.prog.readableRec t && decide (t < Tryz.prog.types.size))) = true := by kernel_rfl
theorem c20 : ((Rows.replicaBatchesRow.ifacesOut == Tryz.f5.resultTypes.toList.any (Tryz.prog.ifacesRec ·))) = true := by kernel_rfl
theorem c21 : ((Rows.replicaBatchesRow.loopsOut == Tryz.f5.resultTypes.toList.any (Tryz.prog.loopsFrom ·))) = true := by kernel_rfl
theorem c22 : ((Rows.replicaBatchesRow.plainKeys == Tryz.prog.plainKeys)) = true := by kernel_rfl
theorem c23 : (Rows.replicaBatchesRow.shortTexts.isNone) = true := by kernel_rfl
theorem c24 : (Tryz.prog.stopsHeard) = true := by kernel_rfl
theorem c25 : (Tryz.prog.mayEnter) = true := by kernel_rfl
theorem c26 : ((Rows.replicaBatchesRow.lifted == Tryz.prog.liftsFinal)) = true := by kernel_rfl
theorem c27 : ((Tryz.prog.make == some Rows.replicaBatchesRow.make)) = true := by kernel_rfl
theorem c28 : ((Rows.replicaBatchesRow.kinds == (if Rows.replicaBatchesRow.domain.isEmpty then [] else Tryz.f5.params.toList.map fun t => match Tryz.prog.underlying t with | some (.int k) => some k | _ => none))) = true := by kernel_rfl
theorem c29 : ((Rows.replicaBatchesRow.pinned == Rows.replicaBatchesRow.pinnedBy)) = true := by kernel_rfl
theorem c30 : ((Rows.replicaBatchesRow.veiled == (Tryz.f5.params.toList ++ Rows.replicaBatchesSpec.plain.varTypes Tryz.prog ++ Tryz.f5.resultTypes.toList).any (Tryz.prog.veiledRec ·))) = true := by kernel_rfl
theorem c31 : (Rows.replicaBatchesRow.veiledFits Tryz.prog Tryz.f5.params.toList (Tryz.f5.params.toList ++ Rows.replicaBatchesSpec.plain.varTypes Tryz.prog ++ Tryz.f5.resultTypes.toList)) = true := by kernel_rfl
theorem closed : joinedFacts Tryz.prog 5 Tryz.f5 Rows.replicaBatchesSpec Rows.replicaBatchesRow = true := by
  unfold joinedFacts
  exact andB (andB (andB (andB (andB (andB (andB (andB (andB (andB (andB (andB (andB (andB (andB (andB (andB (andB (andB (andB (andB (andB (andB (andB (andB (andB (andB (andB (andB (andB (andB (c0) c1) c2) c3) c4) c5) c6) c7) c8) c9) c10) c11) c12) c13) c14) c15) c16) c17) c18) c19) c20) c21) c22) c23) c24) c25) c26) c27) c28) c29) c30) c31
end Go.Proofs.YtgkokjkoifdbnaaGreat.replicaBatches
