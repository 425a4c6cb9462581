/- ReplicaBatches returns true at every input, and each argument reads behind the call as it read before. No condition. -/
import Derived.Test.YtgkokjkoifdbnaaGreatRows
import Derived.Test.YtgkokjkoifdbnaaGreatTies
import Derived.Test.YtgkokjkoifdbnaaGreatSoC
import Derived.Test.YtgkokjkoifdbnaaGreatGoReplicaBatches
import Derived.Test.YtgkokjkoifdbnaaGreatFactsReplicaBatches
import Derived.WalkKit
import Derived.ProofKit
import Derived.OpenShut
import Derived.ShutString
import Derived.ChangeOld
import Derived.Below
import Derived.Carry
import Derived.SizedLaws
namespace Go.Proofs.YtgkokjkoifdbnaaGreat.replicaBatches
open Go.ChangeShapes Go.WideShapes Go.ChangeAt Go.RowKit Go.Am Go.Am.Fs
set_option linter.unusedVariables false
theorem own : ownKnob Tryz.prog.godebug = none := by kernel_rfl
theorem laidOut : laidOutB Tryz.prog = true := by kernel_rfl
theorem s35 : structB Tryz.prog 35 = true := by kernel_rfl
theorem c35 : Tryz.prog.cellsOf 35 = 12 := by kernel_rfl
theorem q35 : sliceAt Tryz.prog 35 11 = true := by kernel_rfl
theorem lenN {α : Type} {l : List α} (h : l.length = 12) : ∃ c0 c1 c2 c3 c4 c5 c6 c7 c8 c9 c10 c11, l = [c0, c1, c2, c3, c4, c5, c6, c7, c8, c9, c10, c11] := by
  match l, h with
  | [c0, c1, c2, c3, c4, c5, c6, c7, c8, c9, c10, c11], _ => exact ⟨c0, c1, c2, c3, c4, c5, c6, c7, c8, c9, c10, c11, rfl⟩
theorem walkC {P : Program} (s35 : structB P 35 = true) (c35 : P.cellsOf 35 = 12) (q35 : sliceAt P 35 11 = true) {W : World} {base : Nat} {v : Value} (h : Value.okWide P W .any base 35 v) :
    ∃ c0 c1 c2 c3 c4 c5 c6 c7 c8 c9 c10 a n c, v = .agg #[c0, c1, c2, c3, c4, c5, c6, c7, c8, c9, c10, .slice a n c] := by
  obtain ⟨cs, rfl, hsz, hrow⟩ := okWide_cells s35 h
  rw [c35] at hsz
  obtain ⟨l⟩ := cs
  obtain ⟨c0, c1, c2, c3, c4, c5, c6, c7, c8, c9, c10, c11, rfl⟩ := lenN (by simpa using hsz)
  obtain ⟨a, n, c, rfl⟩ := row_slice (i := 11) (v := c11) hrow rfl q35
  exact ⟨c0, c1, c2, c3, c4, c5, c6, c7, c8, c9, c10, a, n, c, rfl⟩
set_option maxRecDepth 100000 in
theorem walk {W : World} {base : Nat} {v : Value} (h : Value.okWide Tryz.prog W .any base 35 v) : Calls Tryz.prog 5 #[v] W fun e w' => e = .returned (.bool true) ∧ Below W.heap.size W w' := by
  obtain ⟨c0, c1, c2, c3, c4, c5, c6, c7, c8, c9, c10, a, n, c, rfl⟩ := walkC s35 c35 q35 h
  obtain ⟨N, hN⟩ := replicaBatches_ran (.v c0) (.v c1) (.v c2) (.v c3) (.v c4) (.v c5) (.v c6) (.v c7) (.v c8) (.v c9) (.v c10) a n c
  exact law_calls (P := Tryz.prog) (T := withM T knReplicaBatches.mC) mixed replicaBatches_tab hN (All2.cons (rt_agg #[c0, c1, c2, c3, c4, c5, c6, c7, c8, c9, c10, .slice a n c]) (All2.nil _))
set_option maxRecDepth 100000 in
theorem lifted (os : Os) (started : os.Started) (H : Type) (enc : TypeId × Value → H) :
    ReturnsInHanded {} Tryz.checked os 5 .any (Rows.replicaBatchesSpec.pre6 enc Tryz.prog Tryz.f5 Rows.replicaBatchesRow.domain false) (Rows.replicaBatchesSpec.post enc Tryz.prog Tryz.f5 false true false false) := by
  refine returnsInHanded_of_change_sized (C := Tryz.checked) own started (by kernel_rfl) Tryz.func5
    (ChangeSpec.witness6 (enc := enc) (C := Tryz.checked) false ⟨#[], #[.agg #[.int .i64 0, .int .i64 0, .slice none 0 0, .slice none 0 0, .slice none 0 0, .slice none 0 0, .slice none 0 0, .slice none 0 0, .int .i64 0, .int .i64 0, .int .i64 0, .slice none 0 0]], []⟩ 8 (by kernel_rfl) (by kernel_rfl) (by kernel_rfl) (by kernel_rfl)) ?_
  intro W base args ds gs before hval0 hW hcnd hsz0 _
  have hval : ∀ (j : Nat) t v, Tryz.f5.params[j]? = some t → args[j]? = some v → Value.okWide Tryz.prog W .any base t v := hval0
  have hW' := hW
  obtain ⟨p, q, hA0, hV, rfl, hfz, hnd⟩ := hW
  have hA : DataW.TrodAll enc Tryz.prog W 0 (fun _ => true) true Tryz.f5.params.toList args.toList ds p := hA0
  rw [Tryz.params5] at hA hval
  obtain ⟨v0, vs0, d0, ds0, p0, q0, hargs, rfl, rfl, h0, r0⟩ := trodAll_cons hA
  obtain ⟨rfl, rfl, rfl⟩ := trodAll_nil r0
  obtain rfl : args = #[v0] := by cases args; simp_all
  obtain ⟨rfl, rfl⟩ := trodVars_none hV
  have hv := hval 0 35 v0 rfl rfl
  have k0 := h0
  have lt0 : ∀ x ∈ p0, x.block < W.heap.size := by obtain ⟨m, hm⟩ := k0; exact DataW.trod_lt m _ _ _ hm
  clear hA0 hval0 hsz0
  refine (walk hv).mono fun e W' ⟨he, bel⟩ => ?_
  subst he
  exact ⟨_, rfl, _, _, _, [], _, [], hW', trodAll_mk1 (shut_bool (by kernel_rfl) _), (trodAll_cons_mk (Below.trod laidOut (by kernel_rfl) (of_decide_eq_true (by kernel_rfl)) k0 bel lt0) trodAll_mk0), rfl, bel.frame _, fun h => by cases h⟩
theorem over : Rows.replicaBatchesRow.holds Tryz.pinned (OpenSpec.ofChange Rows.replicaBatchesSpec) :=
  OpenClaim.holds_of_wide 5 Tryz.f5 rfl rfl rfl rfl rfl rfl rfl ⟨rfl, rfl, rfl, rfl, rfl⟩ rfl rfl rfl rfl rfl (by kernel_rfl) Tryz.func5 closed
    (of_decide_eq_true (by kernel_rfl)) (by unfold Func.isWrapper; first | (rw [if_pos (by decide +kernel)]; kernel_rfl) | (rw [if_neg (by decide +kernel)]; exact ⟨rfl, rfl⟩))
    (fun os started H enc _ => lifted os started H enc)
theorem proved : Rows.ReplicaBatchesSaid := over
end Go.Proofs.YtgkokjkoifdbnaaGreat.replicaBatches
namespace Go.Proofs.YtgkokjkoifdbnaaGreat
/-- The row, under a short name, for the claim. -/
theorem replicaBatches_holds : Rows.ReplicaBatchesSaid := replicaBatches.proved
#print axioms replicaBatches_holds
end Go.Proofs.YtgkokjkoifdbnaaGreat
