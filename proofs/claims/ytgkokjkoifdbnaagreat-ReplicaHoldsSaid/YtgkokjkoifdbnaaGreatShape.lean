import Derived.Test.YtgkokjkoifdbnaaGreatRun
import Derived.WideShapes
/- The shape of an argument that is a struct. -/
namespace Go.Am
set_option autoImplicit false
set_option linter.unusedSimpArgs false
set_option linter.unusedVariables false

def structB (P : Program) (t : TypeId) : Bool := match P.underlying t with
  | some (.struct _) => true
  | _ => false
theorem okWide_cells {P : Program} {w : World} {r : Reach} {base : Nat} {t : TypeId} {v : Value} (hs : structB P t = true) (h : Value.okWide P w r base t v) : ∃ cs, v = .agg cs ∧ cs.size = P.cellsOf t ∧ Row.okWide P w r base t cs := by
  unfold structB at hs
  split at hs
  · rename_i fs hu
    simp only [Value.okWide, hu] at h
    exact h
  · simp at hs

def sliceAt (P : Program) (t : TypeId) (i : Nat) : Bool := match P.cellTypes P.depth t with
  | none => false
  | some ts => match ts[i % ts.length]? with
    | none => false
    | some u => match P.underlying u with
      | some (.slice _) => true
      | _ => false
theorem row_slice {P : Program} {w : World} {r : Reach} {base : Nat} {t : TypeId} {cs : Array Value} (h : Row.okWide P w r base t cs) {i : Nat} {v : Value} (hv : cs[i]? = some v) (hs : sliceAt P t i = true) : ∃ a n c, v = .slice a n c := by
  obtain ⟨ts, h1, h2, h3⟩ := h
  obtain ⟨u, h4, h5⟩ := h3 i v hv
  unfold sliceAt at hs
  rw [h1] at hs
  simp only [h4] at hs
  split at hs
  · rename_i e hu
    simp only [Cell.okWide, hu] at h5
    cases v <;> simp_all [Cell.ok]
  · simp at hs

theorem len12 {α : Type} {l : List α} (h : l.length = 12) : ∃ a b c d e f g i j k m n, l = [a, b, c, d, e, f, g, i, j, k, m, n] := by
  match l, h with
  | [a, b, c, d, e, f, g, i, j, k, m, n], _ => exact ⟨a, b, c, d, e, f, g, i, j, k, m, n, rfl⟩

end Go.Am
