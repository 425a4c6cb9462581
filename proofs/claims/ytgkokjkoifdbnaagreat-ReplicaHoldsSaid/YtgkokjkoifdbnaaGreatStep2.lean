import Derived.Test.YtgkokjkoifdbnaaGreatStep
import Derived.WalkSpells
import Derived.Laws.Pointers
/- One operation, kind by kind. -/
namespace Go.Am
set_option autoImplicit false
set_option linter.unusedSimpArgs false
set_option linter.unusedVariables false

section
variable {P : Program} {Γ : Ctx} (hR : HRel Γ) {id : Nat} (hid : ¬ Γ.U id) {tm : TM} {a : Act} (ht : TR Γ tm a) {r : AV} {H' : Heap} {ao : AOp}

include hR ht in
theorem does_bin {b : BinOp} {t : TypeId} {x y : Operand} (hc : compBin P b t x y = some ao) (h : aop ao tm id Γ.H = some (.val r H')) :
    Does P Γ id (do pure (.value (← (do eqGuard b t x y (a.eval x) (a.eval y); binOp b t (a.eval x) (a.eval y) : Sem Value)))) r H' := by
  unfold compBin at hc
  split at hc
  case h_2 => simp at hc
  rename_i d ax ay hu hx hy
  have rx := compO_ok ht hx
  have ry := compO_ok ht hy
  have plain : ∀ {c : BinOp}, ao = .bin c ax ay → c = b → Does P Γ id (do pure (.value (← (do eqGuard b t x y (a.eval x) (a.eval y); binOp b t (a.eval x) (a.eval y) : Sem Value)))) r H' := by
    intro c e ec
    subst e; subst ec
    simp only [aop] at h
    split at h
    · rename_i u v e1 e2
      obtain ⟨h1, rfl⟩ := out_some h
      obtain ⟨z, hz, rfl⟩ := Option.map_eq_some_iff.1 h1
      rw [e1] at rx; rw [e2] at ry
      rw [rx.v_inv, ry.v_inv]
      exact Does.same hR ⟨z, bin_ok hz Γ.w, .v Γ z⟩
    · simp at h
  have bval : ∀ {c : Bool} {w : World} {s : Sem Value}, s.run P w = .ok (.bool c) w → s.run P w = .ok (.bool c) w := fun h => h
  cases d with
  | int k => simp only [Option.some.injEq] at hc; exact plain hc.symm rfl
  | string => simp only [Option.some.injEq] at hc; exact plain hc.symm rfl
  | bool =>
    have go : ∀ (neg : Bool), ao = .beq neg ax ay → b = (if neg then .neq else .eql) → Does P Γ id (do pure (.value (← (do eqGuard b t x y (a.eval x) (a.eval y); binOp b t (a.eval x) (a.eval y) : Sem Value)))) r H' := by
      intro neg e eb
      subst e; subst eb
      simp only [aop] at h
      split at h
      · rename_i p q e1 e2
        simp only [Option.some.injEq, Out.val.injEq] at h
        obtain ⟨rfl, rfl⟩ := h
        rw [e1] at rx; rw [e2] at ry
        rw [rx.v_inv, ry.v_inv]
        obtain ⟨k1, k2⟩ := beq_ok (P := P) hu p q x y Γ.w
        cases neg
        · exact Does.same hR ⟨_, k1, .v Γ _⟩
        · exact Does.same hR ⟨_, k2, .v Γ _⟩
      · simp at h
    cases b <;> simp only [Option.some.injEq] at hc <;> first | (simp at hc; done) | skip
    · exact go false hc.symm rfl
    · exact go true hc.symm rfl
  | struct fs =>
    cases hp : plainN P 100 t with
    | none => simp [hp] at hc
    | some ks =>
      simp only [hp] at hc
      split at hc
      · rename_i hg
        have go : ∀ (neg : Bool), ao = .eqAgg neg ks ax ay → b = (if neg then .neq else .eql) → Does P Γ id (do pure (.value (← (do eqGuard b t x y (a.eval x) (a.eval y); binOp b t (a.eval x) (a.eval y) : Sem Value)))) r H' := by
          intro neg e eb
          subst e; subst eb
          simp only [aop] at h
          split at h
          · rename_i p q e1 e2
            obtain ⟨h1, rfl⟩ := out_some h
            obtain ⟨z, hz, rfl⟩ := Option.map_eq_some_iff.1 h1
            rw [e1] at rx; rw [e2] at ry
            obtain ⟨vs, ev, l1, g1⟩ := rx.agg_inv
            obtain ⟨us, eu, l2, g2⟩ := ry.agg_inv
            rw [ev, eu]
            obtain ⟨k1, k2⟩ := eqAgg_ok (P := P) hu hp hg (All2.of_arr l1 g1) (All2.of_arr l2 g2) hz x y Γ.w
            cases neg
            · exact Does.same hR ⟨_, k1, .v Γ _⟩
            · exact Does.same hR ⟨_, k2, .v Γ _⟩
          · simp at h
        cases b <;> simp only [Option.some.injEq] at hc <;> first | (simp at hc; done) | skip
        · exact go false hc.symm rfl
        · exact go true hc.symm rfl
      · simp at hc
  | slice e =>
    have go : ∀ (neg : Bool), isNilS y = true → ao = .eqNilS neg ax → b = (if neg then .neq else .eql) → Does P Γ id (do pure (.value (← (do eqGuard b t x y (a.eval x) (a.eval y); binOp b t (a.eval x) (a.eval y) : Sem Value)))) r H' := by
      intro neg hy' e' eb
      subst e'; subst eb
      have hyc : y = .const (.slice none 0 0) := by
        unfold isNilS at hy'; split at hy' <;> first | rfl | simp at hy'
      subst hyc
      have run : ∀ p n c, (do eqGuard (if neg then .neq else .eql) t x (.const (.slice none 0 0)) (.slice p n c) (.slice none 0 0); binOp (if neg then .neq else .eql) t (.slice p n c) (.slice none 0 0) : Sem Value).run P Γ.w = .ok (.bool (if neg then !p.isNone else p.isNone)) Γ.w := by
        intro p n c
        rw [eqGuard_at_slice]
        cases neg
        · simpa using Lib.run_eql_slice_nil Γ.w t e p n c 0 0 hu
        · simpa using run_neq_slice_nil_any Γ.w t e p n c 0 0 hu
      simp only [aop] at h
      split at h <;> first | (simp at h; done) | (simp only [Option.some.injEq, Out.val.injEq] at h; obtain ⟨rfl, rfl⟩ := h; rename_i e1; rw [e1] at rx)
      · rw [rx.v_inv]
        refine Does.same hR ⟨_, run _ _ _, ?_⟩
        cases neg <;> exact .v Γ _
      · obtain ⟨bb, o', cc, ev, _⟩ := rx.osl_inv
        rw [ev]
        refine Does.same hR ⟨_, run _ _ _, ?_⟩
        cases neg <;> exact .v Γ _
      · rcases rx.fsl_inv.fsl_inv with ⟨_, _, p, cc, ev⟩ | ⟨bb, o', cc, f, ev, _⟩ <;> rw [ev] <;> refine Does.same hR ⟨_, run _ _ _, ?_⟩ <;> cases neg <;> exact .v Γ _
    cases b <;> simp only at hc <;> first | (simp at hc; done) | skip
    · cases hn : isNilS y <;> simp [hn] at hc; exact go false hn hc.symm rfl
    · cases hn : isNilS y <;> simp [hn] at hc; exact go true hn hc.symm rfl
  | pointer e =>
    have go : ∀ (neg : Bool), isNilP y = true → ao = .eqNilP neg ax → b = (if neg then .neq else .eql) → Does P Γ id (do pure (.value (← (do eqGuard b t x y (a.eval x) (a.eval y); binOp b t (a.eval x) (a.eval y) : Sem Value)))) r H' := by
      intro neg hy' e' eb
      subst e'; subst eb
      have hyc : y = .const (.pointer none) := by
        unfold isNilP at hy'; split at hy' <;> first | rfl | simp at hy'
      subst hyc
      have hpe : P.underlying t = some (.pointer (P.pointee t)) := by simp [Program.pointee, hu]
      have run : ∀ p, (do eqGuard (if neg then .neq else .eql) t x (.const (.pointer none)) (.pointer p) (.pointer none); binOp (if neg then .neq else .eql) t (.pointer p) (.pointer none) : Sem Value).run P Γ.w = .ok (.bool (if neg then !p.isNone else p.isNone)) Γ.w := by
        intro p
        rw [eqGuard_at_pointer]
        cases neg
        · simpa using run_eql_pointer_nil Γ.w t p hpe
        · simpa using run_neq_pointer_nil Γ.w t p hpe
      simp only [aop] at h
      split at h <;> first | (simp at h; done) | (simp only [Option.some.injEq, Out.val.injEq] at h; obtain ⟨rfl, rfl⟩ := h; rename_i e1; rw [e1] at rx)
      · rw [rx.v_inv]
        refine Does.same hR ⟨_, run _, ?_⟩
        cases neg <;> exact .v Γ _
      · obtain ⟨bb, ev, _⟩ := rx.ptr_inv
        rw [ev]
        refine Does.same hR ⟨_, run _, ?_⟩
        cases neg <;> exact .v Γ _
      · obtain ⟨bb, o', f, ev, _⟩ := rx.eptr_inv.eptr_inv
        rw [ev]
        refine Does.same hR ⟨_, run _, ?_⟩
        cases neg <;> exact .v Γ _
    cases b <;> simp only at hc <;> first | (simp at hc; done) | skip
    · cases hn : isNilP y <;> simp [hn] at hc; exact go false hn hc.symm rfl
    · cases hn : isNilP y <;> simp [hn] at hc; exact go true hn hc.symm rfl
  | _ => simp at hc
end
end Go.Am
